/- The functions of the program, each as a plain statement, with the proof that it suffices for a call: printed by sh.py out of the loaded code. -/
import Derived.Test.YtgjbajjggmpmmaaEng6
import Derived.Test.YtgjbajjggmpmmaaProg
set_option maxRecDepth 100000
set_option linter.unusedVariables false
namespace Go.Proofs.Ytgjbajjggmpmmaa
open Go Go.Eng

/-- slices.IndexFunc[[]sallyport/descr.Descr,sallyport/descr.Descr] -/
def f45 (p0 : Sl) (p1 : Value) (K : Int → World → Prop) (w : World) : Prop :=
  loopS (σ := Int) (fun x1 w again2 =>
    cond (decide (x1 < (p0.len : Int)))
      (semS Try.prog (Instr.indexAt 22 (.slice p0.a p0.len p0.cap) (.int .i64 x1)) (.one .adr) (fun x3 w =>
      semS Try.prog (Instr.loadAt 27 (.pointer (some x3))) (.agg [(.int .i64), (.int .i64), (.int .i64), (.int .i64), (.int .i64), (.int .i64), .str, .slc, .slc, .slc, .slc]) (fun x4 x5 x6 x7 x8 x9 x10 x11 x12 x13 x14 w =>
      callY Try.prog (callSem p1 #[(.agg #[(.int .i64 x4), (.int .i64 x5), (.int .i64 x6), (.int .i64 x7), (.int .i64 x8), (.int .i64 x9), (.string x10), (.slice x11.a x11.len x11.cap), (.slice x12.a x12.len x12.cap), (.slice x13.a x13.len x13.cap), (.slice x14.a x14.len x14.cap)])]) [(.one .bool)] (fun r15 w =>
      cond r15
        (K x1 w)
        (again2 (IntKind.wrap .i64 (x1 + 1)) w)) w) w) w)
      (K (-1) w)) 0 w
theorem f45_ok {p0 : Sl} {p1 : Value} {K : Int → World → Prop} {w : World} (h : f45 p0 p1 K w) : callS Try.prog 45 #[(.slice p0.a p0.len p0.cap), p1] [(.one (.int .i64))] K w :=
  calls_of_fn (args := [(.slice p0.a p0.len p0.cap), p1]) Try.f45 [1, 11] [] [] (.two .nil (.two (.two .nil (.one (.loop [(8, (.int .i64))] .nil))) .nil)) (by kernel_rfl) (by kernel_rfl)
    (Eq.mp (by kernel_rfl : f45 p0 p1 K w = evFn Try.prog Try.f45 [1, 11] [] [] (.two .nil (.two (.two .nil (.one (.loop [(8, (.int .i64))] .nil))) .nil)) [(.slice p0.a p0.len p0.cap), p1] [(.one (.int .i64))] K w) h)

/-- slices.ContainsFunc[[]sallyport/descr.Descr,sallyport/descr.Descr] -/
def f30 (p0 : Sl) (p1 : Value) (K : Bool → World → Prop) (w : World) : Prop :=
  callS Try.prog 45 #[(.slice p0.a p0.len p0.cap), p1] [(.one (.int .i64))] (fun r1 w =>
  K (decide (r1 ≥ 0)) w) w
theorem f30_ok {p0 : Sl} {p1 : Value} {K : Bool → World → Prop} {w : World} (h : f30 p0 p1 K w) : callS Try.prog 30 #[(.slice p0.a p0.len p0.cap), p1] [(.one .bool)] K w :=
  calls_of_fn (args := [(.slice p0.a p0.len p0.cap), p1]) Try.f30 [1, 6] [] [] .nil (by kernel_rfl) (by kernel_rfl)
    (Eq.mp (by kernel_rfl : f30 p0 p1 K w = evFn Try.prog Try.f30 [1, 6] [] [] .nil [(.slice p0.a p0.len p0.cap), p1] [(.one .bool)] K w) h)

/-- (sallyport/descr.Descr).bare -/
def f20 (p0_0 : Int) (p0_1 : Int) (p0_2 : Int) (p0_3 : Int) (p0_4 : Int) (p0_5 : Int) (p0_6 : ByteArray) (p0_7 : Sl) (p0_8 : Sl) (p0_9 : Sl) (p0_10 : Sl) (K : Int → Int → Int → Int → Int → Int → ByteArray → Sl → Sl → Sl → Sl → World → Prop) (w : World) : Prop :=
  semS Try.prog (Instr.box 27 (.agg #[(.int .i64 p0_0), (.int .i64 p0_1), (.int .i64 p0_2), (.int .i64 p0_3), (.int .i64 p0_4), (.int .i64 p0_5), (.string p0_6), (.slice p0_7.a p0_7.len p0_7.cap), (.slice p0_8.a p0_8.len p0_8.cap), (.slice p0_9.a p0_9.len p0_9.cap), (.slice p0_10.a p0_10.len p0_10.cap)])) (.one .adr) (fun x1 w =>
  semS Try.prog (Instr.alloc 27 true (.tuple #[])) (.one .adr) (fun x2 w =>
  semS Try.prog (Instr.loadAt 3 (.pointer (some (x1.add 0)))) (.one (.int .i64)) (fun x3 w =>
  joinS (σ := Unit) (fun _ w =>
    semU Try.prog (Instr.storeAt 3 (.pointer (some (x1.add 1))) (.int .i64 0)) (fun w =>
    semU Try.prog (Instr.storeAt 3 (.pointer (some (x1.add 2))) (.int .i64 0)) (fun w =>
    semU Try.prog (Instr.storeAt 9 (.pointer (some (x1.add 6))) (.string (ByteArray.mk #[]))) (fun w =>
    semU Try.prog (Instr.storeAt 25 (.pointer (some (x1.add 7))) (.slice none 0 0)) (fun w =>
    semU Try.prog (Instr.storeAt 25 (.pointer (some (x1.add 8))) (.slice none 0 0)) (fun w =>
    semS Try.prog (Instr.loadAt 27 (.pointer (some x1))) (.agg [(.int .i64), (.int .i64), (.int .i64), (.int .i64), (.int .i64), (.int .i64), .str, .slc, .slc, .slc, .slc]) (fun x5 x6 x7 x8 x9 x10 x11 x12 x13 x14 x15 w =>
    semU Try.prog (Instr.storeAt 27 (.pointer (some x2)) (.agg #[(.int .i64 x5), (.int .i64 x6), (.int .i64 x7), (.int .i64 x8), (.int .i64 x9), (.int .i64 x10), (.string x11), (.slice x12.a x12.len x12.cap), (.slice x13.a x13.len x13.cap), (.slice x14.a x14.len x14.cap), (.slice x15.a x15.len x15.cap)])) (fun w =>
    ∃ v16, (loadVar 27 x2).run Try.prog w = .ok v16 w ∧ decR [(.agg [(.int .i64), (.int .i64), (.int .i64), (.int .i64), (.int .i64), (.int .i64), .str, .slc, .slc, .slc, .slc])] v16 K fun r => r w) w) w) w) w) w) w) w) fun J4 =>
  cond (x3 == 0)
    (semU Try.prog (Instr.storeAt 9 (.pointer (some (x1.add 6))) (.string (ByteArray.mk #[]))) (fun w =>
    semU Try.prog (Instr.storeAt 25 (.pointer (some (x1.add 10))) (.slice none 0 0)) (fun w =>
    semS Try.prog (Instr.loadAt 27 (.pointer (some x1))) (.agg [(.int .i64), (.int .i64), (.int .i64), (.int .i64), (.int .i64), (.int .i64), .str, .slc, .slc, .slc, .slc]) (fun x17 x18 x19 x20 x21 x22 x23 x24 x25 x26 x27 w =>
    semU Try.prog (Instr.storeAt 27 (.pointer (some x2)) (.agg #[(.int .i64 x17), (.int .i64 x18), (.int .i64 x19), (.int .i64 x20), (.int .i64 x21), (.int .i64 x22), (.string x23), (.slice x24.a x24.len x24.cap), (.slice x25.a x25.len x25.cap), (.slice x26.a x26.len x26.cap), (.slice x27.a x27.len x27.cap)])) (fun w =>
    ∃ v28, (loadVar 27 x2).run Try.prog w = .ok v28 w ∧ decR [(.agg [(.int .i64), (.int .i64), (.int .i64), (.int .i64), (.int .i64), (.int .i64), .str, .slc, .slc, .slc, .slc])] v28 K fun r => r w) w) w) w) w)
    (cond (x3 == 1)
      (semU Try.prog (Instr.storeAt 3 (.pointer (some (x1.add 3))) (.int .i64 0)) (fun w =>
      semU Try.prog (Instr.storeAt 3 (.pointer (some (x1.add 4))) (.int .i64 0)) (fun w =>
      J4 () w) w) w)
      (cond (x3 == 2)
        (J4 () w)
        (cond (x3 == 3)
          (semU Try.prog (Instr.storeAt 25 (.pointer (some (x1.add 10))) (.slice none 0 0)) (fun w =>
          semS Try.prog (Instr.loadAt 27 (.pointer (some x1))) (.agg [(.int .i64), (.int .i64), (.int .i64), (.int .i64), (.int .i64), (.int .i64), .str, .slc, .slc, .slc, .slc]) (fun x29 x30 x31 x32 x33 x34 x35 x36 x37 x38 x39 w =>
          semU Try.prog (Instr.storeAt 27 (.pointer (some x2)) (.agg #[(.int .i64 x29), (.int .i64 x30), (.int .i64 x31), (.int .i64 x32), (.int .i64 x33), (.int .i64 x34), (.string x35), (.slice x36.a x36.len x36.cap), (.slice x37.a x37.len x37.cap), (.slice x38.a x38.len x38.cap), (.slice x39.a x39.len x39.cap)])) (fun w =>
          ∃ v40, (loadVar 27 x2).run Try.prog w = .ok v40 w ∧ decR [(.agg [(.int .i64), (.int .i64), (.int .i64), (.int .i64), (.int .i64), (.int .i64), .str, .slc, .slc, .slc, .slc])] v40 K fun r => r w) w) w) w)
          (cond (x3 == 4)
            (semU Try.prog (Instr.storeAt 3 (.pointer (some (x1.add 5))) (.int .i64 0)) (fun w =>
            semU Try.prog (Instr.storeAt 9 (.pointer (some (x1.add 6))) (.string (ByteArray.mk #[]))) (fun w =>
            semU Try.prog (Instr.storeAt 25 (.pointer (some (x1.add 9))) (.slice none 0 0)) (fun w =>
            semS Try.prog (Instr.loadAt 27 (.pointer (some x1))) (.agg [(.int .i64), (.int .i64), (.int .i64), (.int .i64), (.int .i64), (.int .i64), .str, .slc, .slc, .slc, .slc]) (fun x41 x42 x43 x44 x45 x46 x47 x48 x49 x50 x51 w =>
            semU Try.prog (Instr.storeAt 27 (.pointer (some x2)) (.agg #[(.int .i64 x41), (.int .i64 x42), (.int .i64 x43), (.int .i64 x44), (.int .i64 x45), (.int .i64 x46), (.string x47), (.slice x48.a x48.len x48.cap), (.slice x49.a x49.len x49.cap), (.slice x50.a x50.len x50.cap), (.slice x51.a x51.len x51.cap)])) (fun w =>
            ∃ v52, (loadVar 27 x2).run Try.prog w = .ok v52 w ∧ decR [(.agg [(.int .i64), (.int .i64), (.int .i64), (.int .i64), (.int .i64), (.int .i64), .str, .slc, .slc, .slc, .slc])] v52 K fun r => r w) w) w) w) w) w)
            (semS Try.prog (Instr.loadAt 27 (.pointer (some x1))) (.agg [(.int .i64), (.int .i64), (.int .i64), (.int .i64), (.int .i64), (.int .i64), .str, .slc, .slc, .slc, .slc]) (fun x53 x54 x55 x56 x57 x58 x59 x60 x61 x62 x63 w =>
            semU Try.prog (Instr.storeAt 27 (.pointer (some x2)) (.agg #[(.int .i64 x53), (.int .i64 x54), (.int .i64 x55), (.int .i64 x56), (.int .i64 x57), (.int .i64 x58), (.string x59), (.slice x60.a x60.len x60.cap), (.slice x61.a x61.len x61.cap), (.slice x62.a x62.len x62.cap), (.slice x63.a x63.len x63.cap)])) (fun w =>
            ∃ v64, (loadVar 27 x2).run Try.prog w = .ok v64 w ∧ decR [(.agg [(.int .i64), (.int .i64), (.int .i64), (.int .i64), (.int .i64), (.int .i64), .str, .slc, .slc, .slc, .slc])] v64 K fun r => r w) w) w)))))) w) w) w
theorem f20_ok {p0_0 : Int} {p0_1 : Int} {p0_2 : Int} {p0_3 : Int} {p0_4 : Int} {p0_5 : Int} {p0_6 : ByteArray} {p0_7 : Sl} {p0_8 : Sl} {p0_9 : Sl} {p0_10 : Sl} {K : Int → Int → Int → Int → Int → Int → ByteArray → Sl → Sl → Sl → Sl → World → Prop} {w : World} (h : f20 p0_0 p0_1 p0_2 p0_3 p0_4 p0_5 p0_6 p0_7 p0_8 p0_9 p0_10 K w) : callS Try.prog 20 #[(.agg #[(.int .i64 p0_0), (.int .i64 p0_1), (.int .i64 p0_2), (.int .i64 p0_3), (.int .i64 p0_4), (.int .i64 p0_5), (.string p0_6), (.slice p0_7.a p0_7.len p0_7.cap), (.slice p0_8.a p0_8.len p0_8.cap), (.slice p0_9.a p0_9.len p0_9.cap), (.slice p0_10.a p0_10.len p0_10.cap)])] [(.agg [(.int .i64), (.int .i64), (.int .i64), (.int .i64), (.int .i64), (.int .i64), .str, .slc, .slc, .slc, .slc])] K w :=
  calls_of_fn (args := [(.agg #[(.int .i64 p0_0), (.int .i64 p0_1), (.int .i64 p0_2), (.int .i64 p0_3), (.int .i64 p0_4), (.int .i64 p0_5), (.string p0_6), (.slice p0_7.a p0_7.len p0_7.cap), (.slice p0_8.a p0_8.len p0_8.cap), (.slice p0_9.a p0_9.len p0_9.cap), (.slice p0_10.a p0_10.len p0_10.cap)])]) Try.f20 [] [] [] (.two .nil (.two (.two .nil (.one (.two (.one (.two (.one (.join [] .nil .nil)) .nil)) .nil))) .nil)) (by kernel_rfl) (by kernel_rfl)
    (Eq.mp (by kernel_rfl : f20 p0_0 p0_1 p0_2 p0_3 p0_4 p0_5 p0_6 p0_7 p0_8 p0_9 p0_10 K w = evFn Try.prog Try.f20 [] [] [] (.two .nil (.two (.two .nil (.one (.two (.one (.two (.one (.join [] .nil .nil)) .nil)) .nil))) .nil)) [(.agg #[(.int .i64 p0_0), (.int .i64 p0_1), (.int .i64 p0_2), (.int .i64 p0_3), (.int .i64 p0_4), (.int .i64 p0_5), (.string p0_6), (.slice p0_7.a p0_7.len p0_7.cap), (.slice p0_8.a p0_8.len p0_8.cap), (.slice p0_9.a p0_9.len p0_9.cap), (.slice p0_10.a p0_10.len p0_10.cap)])] [(.agg [(.int .i64), (.int .i64), (.int .i64), (.int .i64), (.int .i64), (.int .i64), .str, .slc, .slc, .slc, .slc])] K w) h)

/-- (sallyport/descr.Descr).nothing -/
def f21 (p0_0 : Int) (p0_1 : Int) (p0_2 : Int) (p0_3 : Int) (p0_4 : Int) (p0_5 : Int) (p0_6 : ByteArray) (p0_7 : Sl) (p0_8 : Sl) (p0_9 : Sl) (p0_10 : Sl) (K : Bool → World → Prop) (w : World) : Prop :=
  semS Try.prog (Instr.box 27 (.agg #[(.int .i64 p0_0), (.int .i64 p0_1), (.int .i64 p0_2), (.int .i64 p0_3), (.int .i64 p0_4), (.int .i64 p0_5), (.string p0_6), (.slice p0_7.a p0_7.len p0_7.cap), (.slice p0_8.a p0_8.len p0_8.cap), (.slice p0_9.a p0_9.len p0_9.cap), (.slice p0_10.a p0_10.len p0_10.cap)])) (.one .adr) (fun x1 w =>
  semS Try.prog (Instr.loadAt 3 (.pointer (some (x1.add 1)))) (.one (.int .i64)) (fun x2 w =>
  joinS (σ := Bool) (fun b3 w =>
    joinS (σ := Bool) (fun b5 w =>
      joinS (σ := Bool) (fun b7 w =>
        joinS (σ := Bool) (fun b9 w =>
          joinS (σ := Bool) (fun b11 w =>
            joinS (σ := Bool) (fun b13 w =>
              K b13 w) fun J14 =>
            cond b11
              (semS Try.prog (Instr.loadAt 25 (.pointer (some (x1.add 7)))) (.one .slc) (fun x15 w =>
                semS Try.prog (Instr.loadAt 25 (.pointer (some (x1.add 8)))) (.one .slc) (fun x16 w =>
                semS Try.prog (Instr.loadAt 25 (.pointer (some (x1.add 9)))) (.one .slc) (fun x17 w =>
                semS Try.prog (Instr.loadAt 25 (.pointer (some (x1.add 10)))) (.one .slc) (fun x18 w =>
                J14 ((IntKind.wrap .i64 ((IntKind.wrap .i64 ((IntKind.wrap .i64 ((x15.len : Int) + (x16.len : Int))) + (x17.len : Int))) + (x18.len : Int))) == 0) w) w) w) w) w)
              (J14 false w)) fun J12 =>
          cond b9
            (semS Try.prog (Instr.loadAt 9 (.pointer (some (x1.add 6)))) (.one .str) (fun x19 w =>
              J12 (x19.toList == (ByteArray.mk #[]).toList) w) w)
            (J12 false w)) fun J10 =>
        cond b7
          (semS Try.prog (Instr.loadAt 3 (.pointer (some (x1.add 5)))) (.one (.int .i64)) (fun x20 w =>
            J10 (x20 == 0) w) w)
          (J10 false w)) fun J8 =>
      cond b5
        (semS Try.prog (Instr.loadAt 3 (.pointer (some (x1.add 4)))) (.one (.int .i64)) (fun x21 w =>
          J8 (x21 == 0) w) w)
        (J8 false w)) fun J6 =>
    cond b3
      (semS Try.prog (Instr.loadAt 3 (.pointer (some (x1.add 3)))) (.one (.int .i64)) (fun x22 w =>
        J6 (x22 == 0) w) w)
      (J6 false w)) fun J4 =>
  cond (x2 == 0)
    (semS Try.prog (Instr.loadAt 3 (.pointer (some (x1.add 2)))) (.one (.int .i64)) (fun x23 w =>
      J4 (x23 == 0) w) w)
    (J4 false w)) w) w
theorem f21_ok {p0_0 : Int} {p0_1 : Int} {p0_2 : Int} {p0_3 : Int} {p0_4 : Int} {p0_5 : Int} {p0_6 : ByteArray} {p0_7 : Sl} {p0_8 : Sl} {p0_9 : Sl} {p0_10 : Sl} {K : Bool → World → Prop} {w : World} (h : f21 p0_0 p0_1 p0_2 p0_3 p0_4 p0_5 p0_6 p0_7 p0_8 p0_9 p0_10 K w) : callS Try.prog 21 #[(.agg #[(.int .i64 p0_0), (.int .i64 p0_1), (.int .i64 p0_2), (.int .i64 p0_3), (.int .i64 p0_4), (.int .i64 p0_5), (.string p0_6), (.slice p0_7.a p0_7.len p0_7.cap), (.slice p0_8.a p0_8.len p0_8.cap), (.slice p0_9.a p0_9.len p0_9.cap), (.slice p0_10.a p0_10.len p0_10.cap)])] [(.one .bool)] K w :=
  calls_of_fn (args := [(.agg #[(.int .i64 p0_0), (.int .i64 p0_1), (.int .i64 p0_2), (.int .i64 p0_3), (.int .i64 p0_4), (.int .i64 p0_5), (.string p0_6), (.slice p0_7.a p0_7.len p0_7.cap), (.slice p0_8.a p0_8.len p0_8.cap), (.slice p0_9.a p0_9.len p0_9.cap), (.slice p0_10.a p0_10.len p0_10.cap)])]) Try.f21 [] [] [] .nil (by kernel_rfl) (by kernel_rfl)
    (Eq.mp (by kernel_rfl : f21 p0_0 p0_1 p0_2 p0_3 p0_4 p0_5 p0_6 p0_7 p0_8 p0_9 p0_10 K w = evFn Try.prog Try.f21 [] [] [] .nil [(.agg #[(.int .i64 p0_0), (.int .i64 p0_1), (.int .i64 p0_2), (.int .i64 p0_3), (.int .i64 p0_4), (.int .i64 p0_5), (.string p0_6), (.slice p0_7.a p0_7.len p0_7.cap), (.slice p0_8.a p0_8.len p0_8.cap), (.slice p0_9.a p0_9.len p0_9.cap), (.slice p0_10.a p0_10.len p0_10.cap)])] [(.one .bool)] K w) h)

/-- strings.indexFunc -/
def f58 (p0 : ByteArray) (p1 : Value) (p2 : Bool) (K : Int → World → Prop) (w : World) : Prop :=
  semS Try.prog (Instr.range 9 (.string p0)) (.one .adr) (fun x1 w =>
  loopS (σ := Unit) (fun _ w again2 =>
    semS Try.prog (Instr.next (.pointer (some x1)) true 0) .nxt ⟨fun w =>
    K (-1) w, fun i3 c4 w =>
    callY Try.prog (callSem p1 #[(.int .i32 c4)]) [(.one .bool)] (fun r5 w =>
    cond (r5 == p2)
      (K i3 w)
      (again2 () w)) w⟩ w) () w) w
theorem f58_ok {p0 : ByteArray} {p1 : Value} {p2 : Bool} {K : Int → World → Prop} {w : World} (h : f58 p0 p1 p2 K w) : callS Try.prog 58 #[(.string p0), p1, (.bool p2)] [(.one (.int .i64))] K w :=
  calls_of_fn (args := [(.string p0), p1, (.bool p2)]) Try.f58 [1, 15] [] [] (.two .nil (.two (.two .nil (.one (.loop [] .nil))) .nil)) (by kernel_rfl) (by kernel_rfl)
    (Eq.mp (by kernel_rfl : f58 p0 p1 p2 K w = evFn Try.prog Try.f58 [1, 15] [] [] (.two .nil (.two (.two .nil (.one (.loop [] .nil))) .nil)) [(.string p0), p1, (.bool p2)] [(.one (.int .i64))] K w) h)

/-- strings.IndexFunc -/
def f54 (p0 : ByteArray) (p1 : Value) (K : Int → World → Prop) (w : World) : Prop :=
  callS Try.prog 58 #[(.string p0), p1, (.bool true)] [(.one (.int .i64))] (fun r1 w =>
  K r1 w) w
theorem f54_ok {p0 : ByteArray} {p1 : Value} {K : Int → World → Prop} {w : World} (h : f54 p0 p1 K w) : callS Try.prog 54 #[(.string p0), p1] [(.one (.int .i64))] K w :=
  calls_of_fn (args := [(.string p0), p1]) Try.f54 [1, 6] [] [] .nil (by kernel_rfl) (by kernel_rfl)
    (Eq.mp (by kernel_rfl : f54 p0 p1 K w = evFn Try.prog Try.f54 [1, 6] [] [] .nil [(.string p0), p1] [(.one (.int .i64))] K w) h)

/-- strings.ContainsFunc -/
def f42 (p0 : ByteArray) (p1 : Value) (K : Bool → World → Prop) (w : World) : Prop :=
  callS Try.prog 54 #[(.string p0), p1] [(.one (.int .i64))] (fun r1 w =>
  K (decide (r1 ≥ 0)) w) w
theorem f42_ok {p0 : ByteArray} {p1 : Value} {K : Bool → World → Prop} {w : World} (h : f42 p0 p1 K w) : callS Try.prog 42 #[(.string p0), p1] [(.one .bool)] K w :=
  calls_of_fn (args := [(.string p0), p1]) Try.f42 [1, 6] [] [] .nil (by kernel_rfl) (by kernel_rfl)
    (Eq.mp (by kernel_rfl : f42 p0 p1 K w = evFn Try.prog Try.f42 [1, 6] [] [] .nil [(.string p0), p1] [(.one .bool)] K w) h)

/-- sallyport/descr.named$1 -/
def f43 (p0 : Int) (K : Bool → World → Prop) (w : World) : Prop :=
  K (!((((decide (p0 ≥ 97)) && (decide (p0 ≤ 122))) || ((decide (p0 ≥ 48)) && (decide (p0 ≤ 57)))) || (p0 == 95))) w
theorem f43_ok {p0 : Int} {K : Bool → World → Prop} {w : World} (h : f43 p0 K w) : callS Try.prog 43 #[(.int .i32 p0)] [(.one .bool)] K w :=
  calls_of_fn (args := [(.int .i32 p0)]) Try.f43 [] [] [] .nil (by kernel_rfl) (by kernel_rfl)
    (Eq.mp (by kernel_rfl : f43 p0 K w = evFn Try.prog Try.f43 [] [] [] .nil [(.int .i32 p0)] [(.one .bool)] K w) h)

/-- sallyport/descr.named -/
def f22 (p0 : ByteArray) (K : Bool → World → Prop) (w : World) : Prop :=
  joinS (σ := Bool) (fun b1 w =>
    K b1 w) fun J2 =>
  cond ((!(p0.toList == (ByteArray.mk #[]).toList)) && (decide ((p0.size : Int) ≤ 24)))
    (callS Try.prog 42 #[(.string p0), (.func (.func 43) #[] #[])] [(.one .bool)] (fun r3 w =>
      J2 (!r3) w) w)
    (J2 false w)
theorem f22_ok {p0 : ByteArray} {K : Bool → World → Prop} {w : World} (h : f22 p0 K w) : callS Try.prog 22 #[(.string p0)] [(.one .bool)] K w :=
  calls_of_fn (args := [(.string p0)]) Try.f22 [] [] [] .nil (by kernel_rfl) (by kernel_rfl)
    (Eq.mp (by kernel_rfl : f22 p0 K w = evFn Try.prog Try.f22 [] [] [] .nil [(.string p0)] [(.one .bool)] K w) h)

/-- sallyport/seal.Size -/
def f23 (p0 : Int) (K : Int → World → Prop) (w : World) : Prop :=
  cond (p0 == 1)
    (K 32 w)
    (cond (p0 == 2)
      (K 64 w)
      (K 0 w))
theorem f23_ok {p0 : Int} {K : Int → World → Prop} {w : World} (h : f23 p0 K w) : callS Try.prog 23 #[(.int .i64 p0)] [(.one (.int .i64))] K w :=
  calls_of_fn (args := [(.int .i64 p0)]) Try.f23 [] [] [] .nil (by kernel_rfl) (by kernel_rfl)
    (Eq.mp (by kernel_rfl : f23 p0 K w = evFn Try.prog Try.f23 [] [] [] .nil [(.int .i64 p0)] [(.one (.int .i64))] K w) h)

/-- (sallyport/descr.Descr).digest -/
def f24 (p0_0 : Int) (p0_1 : Int) (p0_2 : Int) (p0_3 : Int) (p0_4 : Int) (p0_5 : Int) (p0_6 : ByteArray) (p0_7 : Sl) (p0_8 : Sl) (p0_9 : Sl) (p0_10 : Sl) (K : Bool → World → Prop) (w : World) : Prop :=
  semS Try.prog (Instr.box 27 (.agg #[(.int .i64 p0_0), (.int .i64 p0_1), (.int .i64 p0_2), (.int .i64 p0_3), (.int .i64 p0_4), (.int .i64 p0_5), (.string p0_6), (.slice p0_7.a p0_7.len p0_7.cap), (.slice p0_8.a p0_8.len p0_8.cap), (.slice p0_9.a p0_9.len p0_9.cap), (.slice p0_10.a p0_10.len p0_10.cap)])) (.one .adr) (fun x1 w =>
  drawS w fun C w =>
  semQ Try.prog C (Instr.loadAt 3 (.pointer (some (x1.add 1)))) (.one (.int .i64)) (fun x2 =>
  callS Try.prog 23 #[(.int .i64 x2)] [(.one (.int .i64))] (fun r3 w =>
  moreS C w (fun C =>
  cond (r3 != 0)
    (semQ Try.prog C (Instr.loadAt 25 (.pointer (some (x1.add 8)))) (.one .slc) (fun x4 =>
    semQ Try.prog C (Instr.loadAt 3 (.pointer (some (x1.add 1)))) (.one (.int .i64)) (fun x5 =>
    callS Try.prog 23 #[(.int .i64 x5)] [(.one (.int .i64))] (fun r6 w =>
    moreS C w (fun C =>
    cond ((x4.len : Int) == r6)
      (semQ Try.prog C (Instr.loadAt 25 (.pointer (some (x1.add 7)))) (.one .slc) (fun x7 =>
      K (decide ((x7.len : Int) ≤ 64)) w))
      (K false w))) w)))
    (K false w))) w)) w
theorem f24_ok {p0_0 : Int} {p0_1 : Int} {p0_2 : Int} {p0_3 : Int} {p0_4 : Int} {p0_5 : Int} {p0_6 : ByteArray} {p0_7 : Sl} {p0_8 : Sl} {p0_9 : Sl} {p0_10 : Sl} {K : Bool → World → Prop} {w : World} (h : f24 p0_0 p0_1 p0_2 p0_3 p0_4 p0_5 p0_6 p0_7 p0_8 p0_9 p0_10 K w) : callS Try.prog 24 #[(.agg #[(.int .i64 p0_0), (.int .i64 p0_1), (.int .i64 p0_2), (.int .i64 p0_3), (.int .i64 p0_4), (.int .i64 p0_5), (.string p0_6), (.slice p0_7.a p0_7.len p0_7.cap), (.slice p0_8.a p0_8.len p0_8.cap), (.slice p0_9.a p0_9.len p0_9.cap), (.slice p0_10.a p0_10.len p0_10.cap)])] [(.one .bool)] K w :=
  calls_of_fn (args := [(.agg #[(.int .i64 p0_0), (.int .i64 p0_1), (.int .i64 p0_2), (.int .i64 p0_3), (.int .i64 p0_4), (.int .i64 p0_5), (.string p0_6), (.slice p0_7.a p0_7.len p0_7.cap), (.slice p0_8.a p0_8.len p0_8.cap), (.slice p0_9.a p0_9.len p0_9.cap), (.slice p0_10.a p0_10.len p0_10.cap)])]) Try.f24 [] [] [] (.two .nil (.two (.draw [0, 1, 3, 7, 15, 31, 63, 127, 31, 287, 799, 2047, 4095, 8191, 16383, 32767, 65535, 131071, 262143, 524287]) .nil)) (by kernel_rfl) (by kernel_rfl)
    (Eq.mp (by kernel_rfl : f24 p0_0 p0_1 p0_2 p0_3 p0_4 p0_5 p0_6 p0_7 p0_8 p0_9 p0_10 K w = evFn Try.prog Try.f24 [] [] [] (.two .nil (.two (.draw [0, 1, 3, 7, 15, 31, 63, 127, 31, 287, 799, 2047, 4095, 8191, 16383, 32767, 65535, 131071, 262143, 524287]) .nil)) [(.agg #[(.int .i64 p0_0), (.int .i64 p0_1), (.int .i64 p0_2), (.int .i64 p0_3), (.int .i64 p0_4), (.int .i64 p0_5), (.string p0_6), (.slice p0_7.a p0_7.len p0_7.cap), (.slice p0_8.a p0_8.len p0_8.cap), (.slice p0_9.a p0_9.len p0_9.cap), (.slice p0_10.a p0_10.len p0_10.cap)])] [(.one .bool)] K w) h)

/-- math/bits.OnesCount32 -/
def f55 (p0 : Int) (K : Int → World → Prop) (w : World) : Prop :=
  drawS w fun C w =>
  semQ Try.prog C (Instr.index 9 (.string (ByteArray.mk #[0, 1, 1, 2, 1, 2, 2, 3, 1, 2, 2, 3, 2, 3, 3, 4, 1, 2, 2, 3, 2, 3, 3, 4, 2, 3, 3, 4, 3, 4, 4, 5, 1, 2, 2, 3, 2, 3, 3, 4, 2, 3, 3, 4, 3, 4, 4, 5, 2, 3, 3, 4, 3, 4, 4, 5, 3, 4, 4, 5, 4, 5, 5, 6, 1, 2, 2, 3, 2, 3, 3, 4, 2, 3, 3, 4, 3, 4, 4, 5, 2, 3, 3, 4, 3, 4, 4, 5, 3, 4, 4, 5, 4, 5, 5, 6, 2, 3, 3, 4, 3, 4, 4, 5, 3, 4, 4, 5, 4, 5, 5, 6, 3, 4, 4, 5, 4, 5, 5, 6, 4, 5, 5, 6, 5, 6, 6, 7, 1, 2, 2, 3, 2, 3, 3, 4, 2, 3, 3, 4, 3, 4, 4, 5, 2, 3, 3, 4, 3, 4, 4, 5, 3, 4, 4, 5, 4, 5, 5, 6, 2, 3, 3, 4, 3, 4, 4, 5, 3, 4, 4, 5, 4, 5, 5, 6, 3, 4, 4, 5, 4, 5, 5, 6, 4, 5, 5, 6, 5, 6, 6, 7, 2, 3, 3, 4, 3, 4, 4, 5, 3, 4, 4, 5, 4, 5, 5, 6, 3, 4, 4, 5, 4, 5, 5, 6, 4, 5, 5, 6, 5, 6, 6, 7, 3, 4, 4, 5, 4, 5, 5, 6, 4, 5, 5, 6, 5, 6, 6, 7, 4, 5, 5, 6, 5, 6, 6, 7, 5, 6, 6, 7, 6, 7, 7, 8])) (.int .u32 (shrI .u32 p0 24))) (.one (.int .u8)) (fun x1 =>
  semQ Try.prog C (Instr.index 9 (.string (ByteArray.mk #[0, 1, 1, 2, 1, 2, 2, 3, 1, 2, 2, 3, 2, 3, 3, 4, 1, 2, 2, 3, 2, 3, 3, 4, 2, 3, 3, 4, 3, 4, 4, 5, 1, 2, 2, 3, 2, 3, 3, 4, 2, 3, 3, 4, 3, 4, 4, 5, 2, 3, 3, 4, 3, 4, 4, 5, 3, 4, 4, 5, 4, 5, 5, 6, 1, 2, 2, 3, 2, 3, 3, 4, 2, 3, 3, 4, 3, 4, 4, 5, 2, 3, 3, 4, 3, 4, 4, 5, 3, 4, 4, 5, 4, 5, 5, 6, 2, 3, 3, 4, 3, 4, 4, 5, 3, 4, 4, 5, 4, 5, 5, 6, 3, 4, 4, 5, 4, 5, 5, 6, 4, 5, 5, 6, 5, 6, 6, 7, 1, 2, 2, 3, 2, 3, 3, 4, 2, 3, 3, 4, 3, 4, 4, 5, 2, 3, 3, 4, 3, 4, 4, 5, 3, 4, 4, 5, 4, 5, 5, 6, 2, 3, 3, 4, 3, 4, 4, 5, 3, 4, 4, 5, 4, 5, 5, 6, 3, 4, 4, 5, 4, 5, 5, 6, 4, 5, 5, 6, 5, 6, 6, 7, 2, 3, 3, 4, 3, 4, 4, 5, 3, 4, 4, 5, 4, 5, 5, 6, 3, 4, 4, 5, 4, 5, 5, 6, 4, 5, 5, 6, 5, 6, 6, 7, 3, 4, 4, 5, 4, 5, 5, 6, 4, 5, 5, 6, 5, 6, 6, 7, 4, 5, 5, 6, 5, 6, 6, 7, 5, 6, 6, 7, 6, 7, 7, 8])) (.int .u32 (andI .u32 (shrI .u32 p0 16) 255))) (.one (.int .u8)) (fun x2 =>
  semQ Try.prog C (Instr.index 9 (.string (ByteArray.mk #[0, 1, 1, 2, 1, 2, 2, 3, 1, 2, 2, 3, 2, 3, 3, 4, 1, 2, 2, 3, 2, 3, 3, 4, 2, 3, 3, 4, 3, 4, 4, 5, 1, 2, 2, 3, 2, 3, 3, 4, 2, 3, 3, 4, 3, 4, 4, 5, 2, 3, 3, 4, 3, 4, 4, 5, 3, 4, 4, 5, 4, 5, 5, 6, 1, 2, 2, 3, 2, 3, 3, 4, 2, 3, 3, 4, 3, 4, 4, 5, 2, 3, 3, 4, 3, 4, 4, 5, 3, 4, 4, 5, 4, 5, 5, 6, 2, 3, 3, 4, 3, 4, 4, 5, 3, 4, 4, 5, 4, 5, 5, 6, 3, 4, 4, 5, 4, 5, 5, 6, 4, 5, 5, 6, 5, 6, 6, 7, 1, 2, 2, 3, 2, 3, 3, 4, 2, 3, 3, 4, 3, 4, 4, 5, 2, 3, 3, 4, 3, 4, 4, 5, 3, 4, 4, 5, 4, 5, 5, 6, 2, 3, 3, 4, 3, 4, 4, 5, 3, 4, 4, 5, 4, 5, 5, 6, 3, 4, 4, 5, 4, 5, 5, 6, 4, 5, 5, 6, 5, 6, 6, 7, 2, 3, 3, 4, 3, 4, 4, 5, 3, 4, 4, 5, 4, 5, 5, 6, 3, 4, 4, 5, 4, 5, 5, 6, 4, 5, 5, 6, 5, 6, 6, 7, 3, 4, 4, 5, 4, 5, 5, 6, 4, 5, 5, 6, 5, 6, 6, 7, 4, 5, 5, 6, 5, 6, 6, 7, 5, 6, 6, 7, 6, 7, 7, 8])) (.int .u32 (andI .u32 (shrI .u32 p0 8) 255))) (.one (.int .u8)) (fun x3 =>
  semQ Try.prog C (Instr.index 9 (.string (ByteArray.mk #[0, 1, 1, 2, 1, 2, 2, 3, 1, 2, 2, 3, 2, 3, 3, 4, 1, 2, 2, 3, 2, 3, 3, 4, 2, 3, 3, 4, 3, 4, 4, 5, 1, 2, 2, 3, 2, 3, 3, 4, 2, 3, 3, 4, 3, 4, 4, 5, 2, 3, 3, 4, 3, 4, 4, 5, 3, 4, 4, 5, 4, 5, 5, 6, 1, 2, 2, 3, 2, 3, 3, 4, 2, 3, 3, 4, 3, 4, 4, 5, 2, 3, 3, 4, 3, 4, 4, 5, 3, 4, 4, 5, 4, 5, 5, 6, 2, 3, 3, 4, 3, 4, 4, 5, 3, 4, 4, 5, 4, 5, 5, 6, 3, 4, 4, 5, 4, 5, 5, 6, 4, 5, 5, 6, 5, 6, 6, 7, 1, 2, 2, 3, 2, 3, 3, 4, 2, 3, 3, 4, 3, 4, 4, 5, 2, 3, 3, 4, 3, 4, 4, 5, 3, 4, 4, 5, 4, 5, 5, 6, 2, 3, 3, 4, 3, 4, 4, 5, 3, 4, 4, 5, 4, 5, 5, 6, 3, 4, 4, 5, 4, 5, 5, 6, 4, 5, 5, 6, 5, 6, 6, 7, 2, 3, 3, 4, 3, 4, 4, 5, 3, 4, 4, 5, 4, 5, 5, 6, 3, 4, 4, 5, 4, 5, 5, 6, 4, 5, 5, 6, 5, 6, 6, 7, 3, 4, 4, 5, 4, 5, 5, 6, 4, 5, 5, 6, 5, 6, 6, 7, 4, 5, 5, 6, 5, 6, 6, 7, 5, 6, 6, 7, 6, 7, 7, 8])) (.int .u32 (andI .u32 p0 255))) (.one (.int .u8)) (fun x4 =>
  K (IntKind.wrap .i64 (IntKind.wrap .u8 ((IntKind.wrap .u8 ((IntKind.wrap .u8 (x1 + x2)) + x3)) + x4))) w))))
theorem f55_ok {p0 : Int} {K : Int → World → Prop} {w : World} (h : f55 p0 K w) : callS Try.prog 55 #[(.int .u32 p0)] [(.one (.int .i64))] K w :=
  calls_of_fn (args := [(.int .u32 p0)]) Try.f55 [] [] [] (.two .nil (.two (.draw [0, 1, 3, 0, 8, 24, 56, 127, 0, 256, 768, 1792, 4095, 0, 8192, 24576, 65535, 131071, 262143]) .nil)) (by kernel_rfl) (by kernel_rfl)
    (Eq.mp (by kernel_rfl : f55 p0 K w = evFn Try.prog Try.f55 [] [] [] (.two .nil (.two (.draw [0, 1, 3, 0, 8, 24, 56, 127, 0, 256, 768, 1792, 4095, 0, 8192, 24576, 65535, 131071, 262143]) .nil)) [(.int .u32 p0)] [(.one (.int .i64))] K w) h)

/-- math/bits.OnesCount64 -/
def f56 (p0 : Int) (K : Int → World → Prop) (w : World) : Prop :=
  K (andI .i64 (IntKind.wrap .i64 (IntKind.wrap .u64 ((IntKind.wrap .u64 ((IntKind.wrap .u64 ((andI .u64 (IntKind.wrap .u64 ((shrI .u64 (IntKind.wrap .u64 ((andI .u64 (shrI .u64 (IntKind.wrap .u64 ((andI .u64 (shrI .u64 p0 1) 6148914691236517205) + (andI .u64 p0 6148914691236517205))) 2) 3689348814741910323) + (andI .u64 (IntKind.wrap .u64 ((andI .u64 (shrI .u64 p0 1) 6148914691236517205) + (andI .u64 p0 6148914691236517205))) 3689348814741910323))) 4) + (IntKind.wrap .u64 ((andI .u64 (shrI .u64 (IntKind.wrap .u64 ((andI .u64 (shrI .u64 p0 1) 6148914691236517205) + (andI .u64 p0 6148914691236517205))) 2) 3689348814741910323) + (andI .u64 (IntKind.wrap .u64 ((andI .u64 (shrI .u64 p0 1) 6148914691236517205) + (andI .u64 p0 6148914691236517205))) 3689348814741910323))))) 1085102592571150095) + (shrI .u64 (andI .u64 (IntKind.wrap .u64 ((shrI .u64 (IntKind.wrap .u64 ((andI .u64 (shrI .u64 (IntKind.wrap .u64 ((andI .u64 (shrI .u64 p0 1) 6148914691236517205) + (andI .u64 p0 6148914691236517205))) 2) 3689348814741910323) + (andI .u64 (IntKind.wrap .u64 ((andI .u64 (shrI .u64 p0 1) 6148914691236517205) + (andI .u64 p0 6148914691236517205))) 3689348814741910323))) 4) + (IntKind.wrap .u64 ((andI .u64 (shrI .u64 (IntKind.wrap .u64 ((andI .u64 (shrI .u64 p0 1) 6148914691236517205) + (andI .u64 p0 6148914691236517205))) 2) 3689348814741910323) + (andI .u64 (IntKind.wrap .u64 ((andI .u64 (shrI .u64 p0 1) 6148914691236517205) + (andI .u64 p0 6148914691236517205))) 3689348814741910323))))) 1085102592571150095) 8))) + (shrI .u64 (IntKind.wrap .u64 ((andI .u64 (IntKind.wrap .u64 ((shrI .u64 (IntKind.wrap .u64 ((andI .u64 (shrI .u64 (IntKind.wrap .u64 ((andI .u64 (shrI .u64 p0 1) 6148914691236517205) + (andI .u64 p0 6148914691236517205))) 2) 3689348814741910323) + (andI .u64 (IntKind.wrap .u64 ((andI .u64 (shrI .u64 p0 1) 6148914691236517205) + (andI .u64 p0 6148914691236517205))) 3689348814741910323))) 4) + (IntKind.wrap .u64 ((andI .u64 (shrI .u64 (IntKind.wrap .u64 ((andI .u64 (shrI .u64 p0 1) 6148914691236517205) + (andI .u64 p0 6148914691236517205))) 2) 3689348814741910323) + (andI .u64 (IntKind.wrap .u64 ((andI .u64 (shrI .u64 p0 1) 6148914691236517205) + (andI .u64 p0 6148914691236517205))) 3689348814741910323))))) 1085102592571150095) + (shrI .u64 (andI .u64 (IntKind.wrap .u64 ((shrI .u64 (IntKind.wrap .u64 ((andI .u64 (shrI .u64 (IntKind.wrap .u64 ((andI .u64 (shrI .u64 p0 1) 6148914691236517205) + (andI .u64 p0 6148914691236517205))) 2) 3689348814741910323) + (andI .u64 (IntKind.wrap .u64 ((andI .u64 (shrI .u64 p0 1) 6148914691236517205) + (andI .u64 p0 6148914691236517205))) 3689348814741910323))) 4) + (IntKind.wrap .u64 ((andI .u64 (shrI .u64 (IntKind.wrap .u64 ((andI .u64 (shrI .u64 p0 1) 6148914691236517205) + (andI .u64 p0 6148914691236517205))) 2) 3689348814741910323) + (andI .u64 (IntKind.wrap .u64 ((andI .u64 (shrI .u64 p0 1) 6148914691236517205) + (andI .u64 p0 6148914691236517205))) 3689348814741910323))))) 1085102592571150095) 8))) 16))) + (shrI .u64 (IntKind.wrap .u64 ((IntKind.wrap .u64 ((andI .u64 (IntKind.wrap .u64 ((shrI .u64 (IntKind.wrap .u64 ((andI .u64 (shrI .u64 (IntKind.wrap .u64 ((andI .u64 (shrI .u64 p0 1) 6148914691236517205) + (andI .u64 p0 6148914691236517205))) 2) 3689348814741910323) + (andI .u64 (IntKind.wrap .u64 ((andI .u64 (shrI .u64 p0 1) 6148914691236517205) + (andI .u64 p0 6148914691236517205))) 3689348814741910323))) 4) + (IntKind.wrap .u64 ((andI .u64 (shrI .u64 (IntKind.wrap .u64 ((andI .u64 (shrI .u64 p0 1) 6148914691236517205) + (andI .u64 p0 6148914691236517205))) 2) 3689348814741910323) + (andI .u64 (IntKind.wrap .u64 ((andI .u64 (shrI .u64 p0 1) 6148914691236517205) + (andI .u64 p0 6148914691236517205))) 3689348814741910323))))) 1085102592571150095) + (shrI .u64 (andI .u64 (IntKind.wrap .u64 ((shrI .u64 (IntKind.wrap .u64 ((andI .u64 (shrI .u64 (IntKind.wrap .u64 ((andI .u64 (shrI .u64 p0 1) 6148914691236517205) + (andI .u64 p0 6148914691236517205))) 2) 3689348814741910323) + (andI .u64 (IntKind.wrap .u64 ((andI .u64 (shrI .u64 p0 1) 6148914691236517205) + (andI .u64 p0 6148914691236517205))) 3689348814741910323))) 4) + (IntKind.wrap .u64 ((andI .u64 (shrI .u64 (IntKind.wrap .u64 ((andI .u64 (shrI .u64 p0 1) 6148914691236517205) + (andI .u64 p0 6148914691236517205))) 2) 3689348814741910323) + (andI .u64 (IntKind.wrap .u64 ((andI .u64 (shrI .u64 p0 1) 6148914691236517205) + (andI .u64 p0 6148914691236517205))) 3689348814741910323))))) 1085102592571150095) 8))) + (shrI .u64 (IntKind.wrap .u64 ((andI .u64 (IntKind.wrap .u64 ((shrI .u64 (IntKind.wrap .u64 ((andI .u64 (shrI .u64 (IntKind.wrap .u64 ((andI .u64 (shrI .u64 p0 1) 6148914691236517205) + (andI .u64 p0 6148914691236517205))) 2) 3689348814741910323) + (andI .u64 (IntKind.wrap .u64 ((andI .u64 (shrI .u64 p0 1) 6148914691236517205) + (andI .u64 p0 6148914691236517205))) 3689348814741910323))) 4) + (IntKind.wrap .u64 ((andI .u64 (shrI .u64 (IntKind.wrap .u64 ((andI .u64 (shrI .u64 p0 1) 6148914691236517205) + (andI .u64 p0 6148914691236517205))) 2) 3689348814741910323) + (andI .u64 (IntKind.wrap .u64 ((andI .u64 (shrI .u64 p0 1) 6148914691236517205) + (andI .u64 p0 6148914691236517205))) 3689348814741910323))))) 1085102592571150095) + (shrI .u64 (andI .u64 (IntKind.wrap .u64 ((shrI .u64 (IntKind.wrap .u64 ((andI .u64 (shrI .u64 (IntKind.wrap .u64 ((andI .u64 (shrI .u64 p0 1) 6148914691236517205) + (andI .u64 p0 6148914691236517205))) 2) 3689348814741910323) + (andI .u64 (IntKind.wrap .u64 ((andI .u64 (shrI .u64 p0 1) 6148914691236517205) + (andI .u64 p0 6148914691236517205))) 3689348814741910323))) 4) + (IntKind.wrap .u64 ((andI .u64 (shrI .u64 (IntKind.wrap .u64 ((andI .u64 (shrI .u64 p0 1) 6148914691236517205) + (andI .u64 p0 6148914691236517205))) 2) 3689348814741910323) + (andI .u64 (IntKind.wrap .u64 ((andI .u64 (shrI .u64 p0 1) 6148914691236517205) + (andI .u64 p0 6148914691236517205))) 3689348814741910323))))) 1085102592571150095) 8))) 16))) 32)))) 127) w
theorem f56_ok {p0 : Int} {K : Int → World → Prop} {w : World} (h : f56 p0 K w) : callS Try.prog 56 #[(.int .u64 p0)] [(.one (.int .i64))] K w :=
  calls_of_fn (args := [(.int .u64 p0)]) Try.f56 [] [] [] .nil (by kernel_rfl) (by kernel_rfl)
    (Eq.mp (by kernel_rfl : f56 p0 K w = evFn Try.prog Try.f56 [] [] [] .nil [(.int .u64 p0)] [(.one (.int .i64))] K w) h)

/-- math/bits.OnesCount -/
def f44 (p0 : Int) (K : Int → World → Prop) (w : World) : Prop :=
  callS Try.prog 56 #[(.int .u64 p0)] [(.one (.int .i64))] (fun r1 w =>
  K r1 w) w
theorem f44_ok {p0 : Int} {K : Int → World → Prop} {w : World} (h : f44 p0 K w) : callS Try.prog 44 #[(.int .u64 p0)] [(.one (.int .i64))] K w :=
  calls_of_fn (args := [(.int .u64 p0)]) Try.f44 [] [] [] .nil (by kernel_rfl) (by kernel_rfl)
    (Eq.mp (by kernel_rfl : f44 p0 K w = evFn Try.prog Try.f44 [] [] [] .nil [(.int .u64 p0)] [(.one (.int .i64))] K w) h)

/-- (sallyport/place.Shape).Right -/
def f25 (p0_0 : Int) (p0_1 : Int) (p0_2 : Int) (K : Bool → World → Prop) (w : World) : Prop :=
  semS Try.prog (Instr.box 49 (.agg #[(.int .i64 p0_0), (.int .i64 p0_1), (.int .i64 p0_2)])) (.one .adr) (fun x1 w =>
  semS Try.prog (Instr.loadAt 3 (.pointer (some (x1.add 0)))) (.one (.int .i64)) (fun x2 w =>
  joinS (σ := Bool) (fun b3 w =>
    joinS (σ := Bool) (fun b5 w =>
      joinS (σ := Bool) (fun b7 w =>
        joinS (σ := Bool) (fun b9 w =>
          joinS (σ := Bool) (fun b11 w =>
            K b11 w) fun J12 =>
          cond b9
            (semS Try.prog (Instr.loadAt 3 (.pointer (some (x1.add 1)))) (.one (.int .i64)) (fun x13 w =>
              callS Try.prog 44 #[(.int .u64 (IntKind.wrap .u64 x13))] [(.one (.int .i64))] (fun r14 w =>
              J12 (r14 == 1) w) w) w)
            (J12 false w)) fun J10 =>
        cond b7
          (semS Try.prog (Instr.loadAt 3 (.pointer (some (x1.add 1)))) (.one (.int .i64)) (fun x15 w =>
            J10 (decide (x15 ≤ 4096)) w) w)
          (J10 false w)) fun J8 =>
      cond b5
        (semS Try.prog (Instr.loadAt 3 (.pointer (some (x1.add 1)))) (.one (.int .i64)) (fun x16 w =>
          semS Try.prog (Instr.loadAt 3 (.pointer (some (x1.add 2)))) (.one (.int .i64)) (fun x17 w =>
          J8 (decide (x16 ≥ (IntKind.wrap .i64 (2 * x17)))) w) w) w)
        (J8 false w)) fun J6 =>
    cond b3
      (semS Try.prog (Instr.loadAt 3 (.pointer (some (x1.add 2)))) (.one (.int .i64)) (fun x18 w =>
        joinS (σ := Bool) (fun b19 w =>
          J6 b19 w) fun J20 =>
        cond (x18 == 32)
          (J20 true w)
          (semS Try.prog (Instr.loadAt 3 (.pointer (some (x1.add 2)))) (.one (.int .i64)) (fun x21 w =>
            J20 (x21 == 64) w) w)) w)
      (J6 false w)) fun J4 =>
  cond (decide (x2 ≥ 1))
    (semS Try.prog (Instr.loadAt 3 (.pointer (some (x1.add 0)))) (.one (.int .i64)) (fun x22 w =>
      J4 (decide (x22 ≤ 1099511627776)) w) w)
    (J4 false w)) w) w
theorem f25_ok {p0_0 : Int} {p0_1 : Int} {p0_2 : Int} {K : Bool → World → Prop} {w : World} (h : f25 p0_0 p0_1 p0_2 K w) : callS Try.prog 25 #[(.agg #[(.int .i64 p0_0), (.int .i64 p0_1), (.int .i64 p0_2)])] [(.one .bool)] K w :=
  calls_of_fn (args := [(.agg #[(.int .i64 p0_0), (.int .i64 p0_1), (.int .i64 p0_2)])]) Try.f25 [] [] [] .nil (by kernel_rfl) (by kernel_rfl)
    (Eq.mp (by kernel_rfl : f25 p0_0 p0_1 p0_2 K w = evFn Try.prog Try.f25 [] [] [] .nil [(.agg #[(.int .i64 p0_0), (.int .i64 p0_1), (.int .i64 p0_2)])] [(.one .bool)] K w) h)

def f10_t1 (x1 : Addr) (K : Bool → World → Prop) (z19 : Addr) (w : World) : Prop :=
  semS Try.prog (Instr.loadAt 27 (.pointer (some x1))) (.agg [(.int .i64), (.int .i64), (.int .i64), (.int .i64), (.int .i64), (.int .i64), .str, .slc, .slc, .slc, .slc]) (fun x20 x21 x22 x23 x24 x25 x26 x27 x28 x29 x30 w =>
  callS Try.prog 24 #[(.agg #[(.int .i64 x20), (.int .i64 x21), (.int .i64 x22), (.int .i64 x23), (.int .i64 x24), (.int .i64 x25), (.string x26), (.slice x27.a x27.len x27.cap), (.slice x28.a x28.len x28.cap), (.slice x29.a x29.len x29.cap), (.slice x30.a x30.len x30.cap)])] [(.one .bool)] (fun r31 w =>
  joinS (σ := Bool) (fun b32 w =>
    joinS (σ := Bool) (fun b34 w =>
      joinS (σ := Bool) (fun b36 w =>
        K b36 w) fun J37 =>
      cond b34
        (semS Try.prog (Instr.loadAt 3 (.pointer (some (x1.add 4)))) (.one (.int .i64)) (fun x38 w =>
          J37 (decide (x38 ≤ 1099511627776)) w) w)
        (J37 false w)) fun J35 =>
    cond b32
      (semS Try.prog (Instr.loadAt 3 (.pointer (some (x1.add 4)))) (.one (.int .i64)) (fun x39 w =>
        semS Try.prog (Instr.loadAt 3 (.pointer (some (x1.add 2)))) (.one (.int .i64)) (fun x40 w =>
        J35 (decide (x39 ≥ x40)) w) w) w)
      (J35 false w)) fun J33 =>
  cond r31
    (semS Try.prog (Instr.loadAt 49 (.pointer (some z19))) (.agg [(.int .i64), (.int .i64), (.int .i64)]) (fun x41 x42 x43 w =>
      callS Try.prog 25 #[(.agg #[(.int .i64 x41), (.int .i64 x42), (.int .i64 x43)])] [(.one .bool)] (fun r44 w =>
      J33 r44 w) w) w)
    (J33 false w)) w) w

/-- (sallyport/descr.Descr).Right -/
def f10 (p0_0 : Int) (p0_1 : Int) (p0_2 : Int) (p0_3 : Int) (p0_4 : Int) (p0_5 : Int) (p0_6 : ByteArray) (p0_7 : Sl) (p0_8 : Sl) (p0_9 : Sl) (p0_10 : Sl) (K : Bool → World → Prop) (w : World) : Prop :=
  semS Try.prog (Instr.box 27 (.agg #[(.int .i64 p0_0), (.int .i64 p0_1), (.int .i64 p0_2), (.int .i64 p0_3), (.int .i64 p0_4), (.int .i64 p0_5), (.string p0_6), (.slice p0_7.a p0_7.len p0_7.cap), (.slice p0_8.a p0_8.len p0_8.cap), (.slice p0_9.a p0_9.len p0_9.cap), (.slice p0_10.a p0_10.len p0_10.cap)])) (.one .adr) (fun x1 w =>
  semS Try.prog (Instr.loadAt 3 (.pointer (some (x1.add 0)))) (.one (.int .i64)) (fun x2 w =>
  joinS (σ := Bool) (fun b3 w =>
    joinS (σ := Bool) (fun b5 w =>
      joinS (σ := Bool) (fun b7 w =>
        joinS (σ := Bool) (fun b9 w =>
          cond b9
            (K false w)
            (semS Try.prog (Instr.loadAt 3 (.pointer (some (x1.add 0)))) (.one (.int .i64)) (fun x11 w =>
            cond (x11 == 1)
              (drawS w fun C w =>
              semQ Try.prog C (Instr.loadAt 3 (.pointer (some (x1.add 2)))) (.one (.int .i64)) (fun x12 =>
              semQ Try.prog C (Instr.loadAt 3 (.pointer (some (x1.add 3)))) (.one (.int .i64)) (fun x13 =>
              semQ Try.prog C (Instr.loadAt 3 (.pointer (some (x1.add 1)))) (.one (.int .i64)) (fun x14 =>
              (callS Try.prog 23 #[(.int .i64 x14)] [(.one (.int .i64))] (fun r15 w =>
              moreS C w (fun C =>
              semS Try.prog (Instr.alloc 49 true (.tuple #[])) (.one .adr) (fun x16 w =>
                moreS C w (fun C =>
                semU Try.prog (Instr.storeAt 49 (.pointer (some x16)) (.agg #[(.int .i64 x12), (.int .i64 x13), (.int .i64 r15)])) (fun w =>
                f10_t1 x1 K x16 w) w)) w)) w) ∧
              (semS Try.prog (Instr.alloc 49 true (.tuple #[])) (.one .adr) (fun x17 w =>
              moreS C w (fun C =>
              callS Try.prog 23 #[(.int .i64 x14)] [(.one (.int .i64))] (fun r18 w =>
                moreS C w (fun C =>
                semU Try.prog (Instr.storeAt 49 (.pointer (some x17)) (.agg #[(.int .i64 x12), (.int .i64 x13), (.int .i64 r18)])) (fun w =>
                f10_t1 x1 K x17 w) w)) w)) w)))))
              (cond (x11 == 2)
                (semS Try.prog (Instr.loadAt 27 (.pointer (some x1))) (.agg [(.int .i64), (.int .i64), (.int .i64), (.int .i64), (.int .i64), (.int .i64), .str, .slc, .slc, .slc, .slc]) (fun x45 x46 x47 x48 x49 x50 x51 x52 x53 x54 x55 w =>
                callS Try.prog 24 #[(.agg #[(.int .i64 x45), (.int .i64 x46), (.int .i64 x47), (.int .i64 x48), (.int .i64 x49), (.int .i64 x50), (.string x51), (.slice x52.a x52.len x52.cap), (.slice x53.a x53.len x53.cap), (.slice x54.a x54.len x54.cap), (.slice x55.a x55.len x55.cap)])] [(.one .bool)] (fun r56 w =>
                joinS (σ := Bool) (fun b57 w =>
                  joinS (σ := Bool) (fun b59 w =>
                    K b59 w) fun J60 =>
                  cond b57
                    (semS Try.prog (Instr.loadAt 3 (.pointer (some (x1.add 2)))) (.one (.int .i64)) (fun x61 w =>
                      J60 (decide (x61 ≤ 1099511627776)) w) w)
                    (J60 false w)) fun J58 =>
                cond r56
                  (semS Try.prog (Instr.loadAt 3 (.pointer (some (x1.add 2)))) (.one (.int .i64)) (fun x62 w =>
                    J58 (decide (x62 ≥ 0)) w) w)
                  (J58 false w)) w) w)
                (cond (x11 == 4)
                  (semS Try.prog (Instr.loadAt 3 (.pointer (some (x1.add 5)))) (.one (.int .i64)) (fun x63 w =>
                  joinS (σ := Bool) (fun b64 w =>
                    joinS (σ := Bool) (fun b66 w =>
                      joinS (σ := Bool) (fun b68 w =>
                        K b68 w) fun J69 =>
                      cond b66
                        (semS Try.prog (Instr.loadAt 25 (.pointer (some (x1.add 9)))) (.one .slc) (fun x70 w =>
                          J69 (decide ((x70.len : Int) ≤ 1032)) w) w)
                        (J69 false w)) fun J67 =>
                    cond b64
                      (semS Try.prog (Instr.loadAt 25 (.pointer (some (x1.add 9)))) (.one .slc) (fun x71 w =>
                        J67 (decide ((x71.len : Int) ≥ 1)) w) w)
                      (J67 false w)) fun J65 =>
                  cond (decide (x63 ≥ 1))
                    (semS Try.prog (Instr.loadAt 3 (.pointer (some (x1.add 5)))) (.one (.int .i64)) (fun x72 w =>
                      J65 (decide (x72 < 32)) w) w)
                    (J65 false w)) w)
                  (K true w)))) w)) fun J10 =>
        cond b7
          (J10 true w)
          (semS Try.prog (Instr.loadAt 25 (.pointer (some (x1.add 10)))) (.one .slc) (fun x73 w =>
            J10 (decide ((x73.len : Int) > 256)) w) w)) fun J8 =>
      cond b5
        (J8 true w)
        (semS Try.prog (Instr.loadAt 3 (.pointer (some (x1.add 0)))) (.one (.int .i64)) (fun x74 w =>
          joinS (σ := Bool) (fun b75 w =>
            J8 b75 w) fun J76 =>
          cond (x74 != 3)
            (semS Try.prog (Instr.loadAt 9 (.pointer (some (x1.add 6)))) (.one .str) (fun x77 w =>
              callS Try.prog 22 #[(.string x77)] [(.one .bool)] (fun r78 w =>
              J76 (!r78) w) w) w)
            (J76 false w)) w)) fun J6 =>
    cond b3
      (J6 true w)
      (semS Try.prog (Instr.loadAt 27 (.pointer (some x1))) (.agg [(.int .i64), (.int .i64), (.int .i64), (.int .i64), (.int .i64), (.int .i64), .str, .slc, .slc, .slc, .slc]) (fun x79 x80 x81 x82 x83 x84 x85 x86 x87 x88 x89 w =>
        callS Try.prog 20 #[(.agg #[(.int .i64 x79), (.int .i64 x80), (.int .i64 x81), (.int .i64 x82), (.int .i64 x83), (.int .i64 x84), (.string x85), (.slice x86.a x86.len x86.cap), (.slice x87.a x87.len x87.cap), (.slice x88.a x88.len x88.cap), (.slice x89.a x89.len x89.cap)])] [(.agg [(.int .i64), (.int .i64), (.int .i64), (.int .i64), (.int .i64), (.int .i64), .str, .slc, .slc, .slc, .slc])] (fun r90 r91 r92 r93 r94 r95 r96 r97 r98 r99 r100 w =>
        callS Try.prog 21 #[(.agg #[(.int .i64 r90), (.int .i64 r91), (.int .i64 r92), (.int .i64 r93), (.int .i64 r94), (.int .i64 r95), (.string r96), (.slice r97.a r97.len r97.cap), (.slice r98.a r98.len r98.cap), (.slice r99.a r99.len r99.cap), (.slice r100.a r100.len r100.cap)])] [(.one .bool)] (fun r101 w =>
        J6 (!r101) w) w) w) w)) fun J4 =>
  cond (decide (x2 < 0))
    (J4 true w)
    (semS Try.prog (Instr.loadAt 3 (.pointer (some (x1.add 0)))) (.one (.int .i64)) (fun x102 w =>
      J4 (decide (x102 > 4)) w) w)) w) w
theorem f10_ok {p0_0 : Int} {p0_1 : Int} {p0_2 : Int} {p0_3 : Int} {p0_4 : Int} {p0_5 : Int} {p0_6 : ByteArray} {p0_7 : Sl} {p0_8 : Sl} {p0_9 : Sl} {p0_10 : Sl} {K : Bool → World → Prop} {w : World} (h : f10 p0_0 p0_1 p0_2 p0_3 p0_4 p0_5 p0_6 p0_7 p0_8 p0_9 p0_10 K w) : callS Try.prog 10 #[(.agg #[(.int .i64 p0_0), (.int .i64 p0_1), (.int .i64 p0_2), (.int .i64 p0_3), (.int .i64 p0_4), (.int .i64 p0_5), (.string p0_6), (.slice p0_7.a p0_7.len p0_7.cap), (.slice p0_8.a p0_8.len p0_8.cap), (.slice p0_9.a p0_9.len p0_9.cap), (.slice p0_10.a p0_10.len p0_10.cap)])] [(.one .bool)] K w :=
  calls_of_fn (args := [(.agg #[(.int .i64 p0_0), (.int .i64 p0_1), (.int .i64 p0_2), (.int .i64 p0_3), (.int .i64 p0_4), (.int .i64 p0_5), (.string p0_6), (.slice p0_7.a p0_7.len p0_7.cap), (.slice p0_8.a p0_8.len p0_8.cap), (.slice p0_9.a p0_9.len p0_9.cap), (.slice p0_10.a p0_10.len p0_10.cap)])]) Try.f10 [] [] [] (.two .nil (.two .nil (.two (.two .nil (.one (.two .nil (.two (.two (.draw [0, 1, 0, 4, 0, 16, 48, 127, 0, 511]) .nil) .nil)))) .nil))) (by kernel_rfl) (by kernel_rfl)
    (Eq.mp (by kernel_rfl : f10 p0_0 p0_1 p0_2 p0_3 p0_4 p0_5 p0_6 p0_7 p0_8 p0_9 p0_10 K w = evFn Try.prog Try.f10 [] [] [] (.two .nil (.two .nil (.two (.two .nil (.one (.two .nil (.two (.two (.draw [0, 1, 0, 4, 0, 16, 48, 127, 0, 511]) .nil) .nil)))) .nil))) [(.agg #[(.int .i64 p0_0), (.int .i64 p0_1), (.int .i64 p0_2), (.int .i64 p0_3), (.int .i64 p0_4), (.int .i64 p0_5), (.string p0_6), (.slice p0_7.a p0_7.len p0_7.cap), (.slice p0_8.a p0_8.len p0_8.cap), (.slice p0_9.a p0_9.len p0_9.cap), (.slice p0_10.a p0_10.len p0_10.cap)])] [(.one .bool)] K w) h)

/-- sallyport/descr.Encode$1 -/
def f31 (p0_0 : Int) (p0_1 : Int) (p0_2 : Int) (p0_3 : Int) (p0_4 : Int) (p0_5 : Int) (p0_6 : ByteArray) (p0_7 : Sl) (p0_8 : Sl) (p0_9 : Sl) (p0_10 : Sl) (K : Bool → World → Prop) (w : World) : Prop :=
  semS Try.prog (Instr.box 27 (.agg #[(.int .i64 p0_0), (.int .i64 p0_1), (.int .i64 p0_2), (.int .i64 p0_3), (.int .i64 p0_4), (.int .i64 p0_5), (.string p0_6), (.slice p0_7.a p0_7.len p0_7.cap), (.slice p0_8.a p0_8.len p0_8.cap), (.slice p0_9.a p0_9.len p0_9.cap), (.slice p0_10.a p0_10.len p0_10.cap)])) (.one .adr) (fun x1 w =>
  semS Try.prog (Instr.loadAt 27 (.pointer (some x1))) (.agg [(.int .i64), (.int .i64), (.int .i64), (.int .i64), (.int .i64), (.int .i64), .str, .slc, .slc, .slc, .slc]) (fun x2 x3 x4 x5 x6 x7 x8 x9 x10 x11 x12 w =>
  callS Try.prog 10 #[(.agg #[(.int .i64 x2), (.int .i64 x3), (.int .i64 x4), (.int .i64 x5), (.int .i64 x6), (.int .i64 x7), (.string x8), (.slice x9.a x9.len x9.cap), (.slice x10.a x10.len x10.cap), (.slice x11.a x11.len x11.cap), (.slice x12.a x12.len x12.cap)])] [(.one .bool)] (fun r13 w =>
  K (!r13) w) w) w) w
theorem f31_ok {p0_0 : Int} {p0_1 : Int} {p0_2 : Int} {p0_3 : Int} {p0_4 : Int} {p0_5 : Int} {p0_6 : ByteArray} {p0_7 : Sl} {p0_8 : Sl} {p0_9 : Sl} {p0_10 : Sl} {K : Bool → World → Prop} {w : World} (h : f31 p0_0 p0_1 p0_2 p0_3 p0_4 p0_5 p0_6 p0_7 p0_8 p0_9 p0_10 K w) : callS Try.prog 31 #[(.agg #[(.int .i64 p0_0), (.int .i64 p0_1), (.int .i64 p0_2), (.int .i64 p0_3), (.int .i64 p0_4), (.int .i64 p0_5), (.string p0_6), (.slice p0_7.a p0_7.len p0_7.cap), (.slice p0_8.a p0_8.len p0_8.cap), (.slice p0_9.a p0_9.len p0_9.cap), (.slice p0_10.a p0_10.len p0_10.cap)])] [(.one .bool)] K w :=
  calls_of_fn (args := [(.agg #[(.int .i64 p0_0), (.int .i64 p0_1), (.int .i64 p0_2), (.int .i64 p0_3), (.int .i64 p0_4), (.int .i64 p0_5), (.string p0_6), (.slice p0_7.a p0_7.len p0_7.cap), (.slice p0_8.a p0_8.len p0_8.cap), (.slice p0_9.a p0_9.len p0_9.cap), (.slice p0_10.a p0_10.len p0_10.cap)])]) Try.f31 [] [] [] .nil (by kernel_rfl) (by kernel_rfl)
    (Eq.mp (by kernel_rfl : f31 p0_0 p0_1 p0_2 p0_3 p0_4 p0_5 p0_6 p0_7 p0_8 p0_9 p0_10 K w = evFn Try.prog Try.f31 [] [] [] .nil [(.agg #[(.int .i64 p0_0), (.int .i64 p0_1), (.int .i64 p0_2), (.int .i64 p0_3), (.int .i64 p0_4), (.int .i64 p0_5), (.string p0_6), (.slice p0_7.a p0_7.len p0_7.cap), (.slice p0_8.a p0_8.len p0_8.cap), (.slice p0_9.a p0_9.len p0_9.cap), (.slice p0_10.a p0_10.len p0_10.cap)])] [(.one .bool)] K w) h)

/-- (sallyport/descr.Descr).like -/
def f32 (p0_0 : Int) (p0_1 : Int) (p0_2 : Int) (p0_3 : Int) (p0_4 : Int) (p0_5 : Int) (p0_6 : ByteArray) (p0_7 : Sl) (p0_8 : Sl) (p0_9 : Sl) (p0_10 : Sl) (p1_0 : Int) (p1_1 : Int) (p1_2 : Int) (p1_3 : Int) (p1_4 : Int) (p1_5 : Int) (p1_6 : ByteArray) (p1_7 : Sl) (p1_8 : Sl) (p1_9 : Sl) (p1_10 : Sl) (K : Bool → World → Prop) (w : World) : Prop :=
  semS Try.prog (Instr.box 27 (.agg #[(.int .i64 p0_0), (.int .i64 p0_1), (.int .i64 p0_2), (.int .i64 p0_3), (.int .i64 p0_4), (.int .i64 p0_5), (.string p0_6), (.slice p0_7.a p0_7.len p0_7.cap), (.slice p0_8.a p0_8.len p0_8.cap), (.slice p0_9.a p0_9.len p0_9.cap), (.slice p0_10.a p0_10.len p0_10.cap)])) (.one .adr) (fun x1 w =>
  semS Try.prog (Instr.box 27 (.agg #[(.int .i64 p1_0), (.int .i64 p1_1), (.int .i64 p1_2), (.int .i64 p1_3), (.int .i64 p1_4), (.int .i64 p1_5), (.string p1_6), (.slice p1_7.a p1_7.len p1_7.cap), (.slice p1_8.a p1_8.len p1_8.cap), (.slice p1_9.a p1_9.len p1_9.cap), (.slice p1_10.a p1_10.len p1_10.cap)])) (.one .adr) (fun x2 w =>
  semS Try.prog (Instr.loadAt 3 (.pointer (some (x1.add 0)))) (.one (.int .i64)) (fun x3 w =>
  semS Try.prog (Instr.loadAt 3 (.pointer (some (x2.add 0)))) (.one (.int .i64)) (fun x4 w =>
  joinS (σ := Bool) (fun b5 w =>
    joinS (σ := Bool) (fun b7 w =>
      K b7 w) fun J8 =>
    cond b5
      (semS Try.prog (Instr.loadAt 9 (.pointer (some (x1.add 6)))) (.one .str) (fun x9 w =>
        semS Try.prog (Instr.loadAt 9 (.pointer (some (x2.add 6)))) (.one .str) (fun x10 w =>
        J8 (x9.toList == x10.toList) w) w) w)
      (J8 false w)) fun J6 =>
  cond (x3 == x4)
    (semS Try.prog (Instr.loadAt 3 (.pointer (some (x1.add 0)))) (.one (.int .i64)) (fun x11 w =>
      J6 (x11 != 3) w) w)
    (J6 false w)) w) w) w) w
theorem f32_ok {p0_0 : Int} {p0_1 : Int} {p0_2 : Int} {p0_3 : Int} {p0_4 : Int} {p0_5 : Int} {p0_6 : ByteArray} {p0_7 : Sl} {p0_8 : Sl} {p0_9 : Sl} {p0_10 : Sl} {p1_0 : Int} {p1_1 : Int} {p1_2 : Int} {p1_3 : Int} {p1_4 : Int} {p1_5 : Int} {p1_6 : ByteArray} {p1_7 : Sl} {p1_8 : Sl} {p1_9 : Sl} {p1_10 : Sl} {K : Bool → World → Prop} {w : World} (h : f32 p0_0 p0_1 p0_2 p0_3 p0_4 p0_5 p0_6 p0_7 p0_8 p0_9 p0_10 p1_0 p1_1 p1_2 p1_3 p1_4 p1_5 p1_6 p1_7 p1_8 p1_9 p1_10 K w) : callS Try.prog 32 #[(.agg #[(.int .i64 p0_0), (.int .i64 p0_1), (.int .i64 p0_2), (.int .i64 p0_3), (.int .i64 p0_4), (.int .i64 p0_5), (.string p0_6), (.slice p0_7.a p0_7.len p0_7.cap), (.slice p0_8.a p0_8.len p0_8.cap), (.slice p0_9.a p0_9.len p0_9.cap), (.slice p0_10.a p0_10.len p0_10.cap)]), (.agg #[(.int .i64 p1_0), (.int .i64 p1_1), (.int .i64 p1_2), (.int .i64 p1_3), (.int .i64 p1_4), (.int .i64 p1_5), (.string p1_6), (.slice p1_7.a p1_7.len p1_7.cap), (.slice p1_8.a p1_8.len p1_8.cap), (.slice p1_9.a p1_9.len p1_9.cap), (.slice p1_10.a p1_10.len p1_10.cap)])] [(.one .bool)] K w :=
  calls_of_fn (args := [(.agg #[(.int .i64 p0_0), (.int .i64 p0_1), (.int .i64 p0_2), (.int .i64 p0_3), (.int .i64 p0_4), (.int .i64 p0_5), (.string p0_6), (.slice p0_7.a p0_7.len p0_7.cap), (.slice p0_8.a p0_8.len p0_8.cap), (.slice p0_9.a p0_9.len p0_9.cap), (.slice p0_10.a p0_10.len p0_10.cap)]), (.agg #[(.int .i64 p1_0), (.int .i64 p1_1), (.int .i64 p1_2), (.int .i64 p1_3), (.int .i64 p1_4), (.int .i64 p1_5), (.string p1_6), (.slice p1_7.a p1_7.len p1_7.cap), (.slice p1_8.a p1_8.len p1_8.cap), (.slice p1_9.a p1_9.len p1_9.cap), (.slice p1_10.a p1_10.len p1_10.cap)])]) Try.f32 [] [] [] .nil (by kernel_rfl) (by kernel_rfl)
    (Eq.mp (by kernel_rfl : f32 p0_0 p0_1 p0_2 p0_3 p0_4 p0_5 p0_6 p0_7 p0_8 p0_9 p0_10 p1_0 p1_1 p1_2 p1_3 p1_4 p1_5 p1_6 p1_7 p1_8 p1_9 p1_10 K w = evFn Try.prog Try.f32 [] [] [] .nil [(.agg #[(.int .i64 p0_0), (.int .i64 p0_1), (.int .i64 p0_2), (.int .i64 p0_3), (.int .i64 p0_4), (.int .i64 p0_5), (.string p0_6), (.slice p0_7.a p0_7.len p0_7.cap), (.slice p0_8.a p0_8.len p0_8.cap), (.slice p0_9.a p0_9.len p0_9.cap), (.slice p0_10.a p0_10.len p0_10.cap)]), (.agg #[(.int .i64 p1_0), (.int .i64 p1_1), (.int .i64 p1_2), (.int .i64 p1_3), (.int .i64 p1_4), (.int .i64 p1_5), (.string p1_6), (.slice p1_7.a p1_7.len p1_7.cap), (.slice p1_8.a p1_8.len p1_8.cap), (.slice p1_9.a p1_9.len p1_9.cap), (.slice p1_10.a p1_10.len p1_10.cap)])] [(.one .bool)] K w) h)

/-- slices.Clone[[]byte,byte] -/
def f48 (p0 : Sl) (K : Sl → World → Prop) (w : World) : Prop :=
  semS Try.prog (binS .eql 25 (.tmp 3) (.const (Go.Value.slice none 0 0)) (.slice p0.a p0.len p0.cap) (.slice none 0 0)) (.one .bool) (fun x1 w =>
  cond x1
    (K (⟨none, 0, 0⟩) w)
    (semS Try.prog (Instr.buildSlice 25 0 #[]) (.one .slc) (fun x2 w =>
    semS Try.prog (Builtin.append_ #[25, 25] 25 #[(.slice x2.a x2.len x2.cap), (.slice p0.a p0.len p0.cap)]) (.one .slc) (fun r3 w =>
    K r3 w) w) w)) w
theorem f48_ok {p0 : Sl} {K : Sl → World → Prop} {w : World} (h : f48 p0 K w) : callS Try.prog 48 #[(.slice p0.a p0.len p0.cap)] [(.one .slc)] K w :=
  calls_of_fn (args := [(.slice p0.a p0.len p0.cap)]) Try.f48 [] [] [] .nil (by kernel_rfl) (by kernel_rfl)
    (Eq.mp (by kernel_rfl : f48 p0 K w = evFn Try.prog Try.f48 [] [] [] .nil [(.slice p0.a p0.len p0.cap)] [(.one .slc)] K w) h)

/-- sallyport/span.Put -/
def f34 (p0 : Sl) (p1 : Int) (p2 : Int) (K : Sl → Int → World → Prop) (w : World) : Prop :=
  cond ((decide (p1 < 1)) || (decide (p1 > 8)))
    (K (⟨none, 0, 0⟩) 12 w)
    (joinS (σ := Bool) (fun b1 w =>
      cond b1
        (K (⟨none, 0, 0⟩) 11 w)
        (callS Try.prog 48 #[(.slice p0.a p0.len p0.cap)] [(.one .slc)] (fun r3 w =>
        loopS (σ := Sl × Int) (fun s4 w again5 =>
          cond (decide (s4.2 ≥ 0))
            (semS Try.prog (binS .shr 3 (.tmp 40) (.tmp 42) (.int .i64 p2) (.int .i64 (IntKind.wrap .i64 (8 * s4.2)))) (.one (.int .i64)) (fun x6 w =>
            semS Try.prog (Instr.buildSlice 25 1 #[(0, (.int .u8 (IntKind.wrap .u8 x6)))]) (.one .slc) (fun x7 w =>
            semS Try.prog (Builtin.append_ #[25, 25] 25 #[(.slice s4.1.a s4.1.len s4.1.cap), (.slice x7.a x7.len x7.cap)]) (.one .slc) (fun r8 w =>
            again5 (r8, IntKind.wrap .i64 (s4.2 - 1)) w) w) w) w)
            (K s4.1 0 w)) (r3, IntKind.wrap .i64 (p1 - 1)) w) w)) fun J2 =>
    cond (decide (p2 < 0))
      (J2 true w)
      (joinS (σ := Bool) (fun b9 w =>
          J2 b9 w) fun J10 =>
        cond (decide (p1 < 8))
          (semS Try.prog (binS .shr 3 (.tmp 24) (.tmp 26) (.int .i64 p2) (.int .i64 (IntKind.wrap .i64 (8 * p1)))) (.one (.int .i64)) (fun x11 w =>
            J10 (x11 != 0) w) w)
          (J10 false w)))
theorem f34_ok {p0 : Sl} {p1 : Int} {p2 : Int} {K : Sl → Int → World → Prop} {w : World} (h : f34 p0 p1 p2 K w) : callS Try.prog 34 #[(.slice p0.a p0.len p0.cap), (.int .i64 p1), (.int .i64 p2)] [(.one .slc), (.one (.int .i64))] K w :=
  calls_of_fn (args := [(.slice p0.a p0.len p0.cap), (.int .i64 p1), (.int .i64 p2)]) Try.f34 [] [] [] (.two .nil (.two .nil (.two .nil (.two (.two .nil (.one (.loop [(8, .slc), (9, (.int .i64))] .nil))) .nil)))) (by kernel_rfl) (by kernel_rfl)
    (Eq.mp (by kernel_rfl : f34 p0 p1 p2 K w = evFn Try.prog Try.f34 [] [] [] (.two .nil (.two .nil (.two .nil (.two (.two .nil (.one (.loop [(8, .slc), (9, (.int .i64))] .nil))) .nil)))) [(.slice p0.a p0.len p0.cap), (.int .i64 p1), (.int .i64 p2)] [(.one .slc), (.one (.int .i64))] K w) h)

/-- slices.Grow[[]byte,byte] -/
def f49 (p0 : Sl) (p1 : Int) (K : Sl → World → Prop) (w : World) : Prop :=
  joinS (σ := Unit) (fun _ w =>
    cond (decide ((IntKind.wrap .i64 (p1 - (IntKind.wrap .i64 ((p0.cap : Int) - (p0.len : Int))))) > 0))
      (semS Try.prog (Instr.sliceAt 25 (.slice p0.a p0.len p0.cap) none (some (.int .i64 (p0.cap : Int))) none) (.one .slc) (fun x2 w =>
      semS Try.prog (Builtin.append_ #[25, 3] 25 #[(.slice x2.a x2.len x2.cap), (.int .i64 (IntKind.wrap .i64 (p1 - (IntKind.wrap .i64 ((p0.cap : Int) - (p0.len : Int))))))]) (.one .slc) (fun r3 w =>
      semS Try.prog (Instr.sliceAt 25 (.slice r3.a r3.len r3.cap) none (some (.int .i64 (p0.len : Int))) none) (.one .slc) (fun x4 w =>
      K x4 w) w) w) w)
      (K p0 w)) fun J1 =>
  cond (decide (p1 < 0))
    (False)
    (J1 () w)
theorem f49_ok {p0 : Sl} {p1 : Int} {K : Sl → World → Prop} {w : World} (h : f49 p0 p1 K w) : callS Try.prog 49 #[(.slice p0.a p0.len p0.cap), (.int .i64 p1)] [(.one .slc)] K w :=
  calls_of_fn (args := [(.slice p0.a p0.len p0.cap), (.int .i64 p1)]) Try.f49 [] [] [] (.two .nil (.join [] .nil .nil)) (by kernel_rfl) (by kernel_rfl)
    (Eq.mp (by kernel_rfl : f49 p0 p1 K w = evFn Try.prog Try.f49 [] [] [] (.two .nil (.join [] .nil .nil)) [(.slice p0.a p0.len p0.cap), (.int .i64 p1)] [(.one .slc)] K w) h)

/-- slices.Concat[[]byte,byte] -/
def f35 (p0 : Sl) (K : Sl → World → Prop) (w : World) : Prop :=
  loopS (σ := Int × Int) (fun s1 w again2 =>
    cond (decide (s1.2 < (p0.len : Int)))
      (semS Try.prog (Instr.indexAt 72 (.slice p0.a p0.len p0.cap) (.int .i64 s1.2)) (.one .adr) (fun x3 w =>
      semS Try.prog (Instr.loadAt 25 (.pointer (some x3))) (.one .slc) (fun x4 w =>
      cond (decide ((IntKind.wrap .i64 (s1.1 + (x4.len : Int))) < 0))
        (False)
        (again2 (IntKind.wrap .i64 (s1.1 + (x4.len : Int)), IntKind.wrap .i64 (s1.2 + 1)) w)) w) w)
      (callS Try.prog 49 #[(.slice none 0 0), (.int .i64 s1.1)] [(.one .slc)] (fun r5 w =>
      loopS (σ := Sl × Int) (fun s6 w again7 =>
        cond (decide (s6.2 < (p0.len : Int)))
          (semS Try.prog (Instr.indexAt 72 (.slice p0.a p0.len p0.cap) (.int .i64 s6.2)) (.one .adr) (fun x8 w =>
          semS Try.prog (Instr.loadAt 25 (.pointer (some x8))) (.one .slc) (fun x9 w =>
          semS Try.prog (Builtin.append_ #[25, 25] 25 #[(.slice s6.1.a s6.1.len s6.1.cap), (.slice x9.a x9.len x9.cap)]) (.one .slc) (fun r10 w =>
          again7 (r10, IntKind.wrap .i64 (s6.2 + 1)) w) w) w) w)
          (K s6.1 w)) (r5, 0) w) w)) (0, 0) w
theorem f35_ok {p0 : Sl} {K : Sl → World → Prop} {w : World} (h : f35 p0 K w) : callS Try.prog 35 #[(.slice p0.a p0.len p0.cap)] [(.one .slc)] K w :=
  calls_of_fn (args := [(.slice p0.a p0.len p0.cap)]) Try.f35 [] [] [] (.two .nil (.two .nil (.two (.two .nil (.one (.loop [(3, (.int .i64)), (11, (.int .i64))] .nil))) (.two .nil (.two (.two .nil (.one (.loop [(6, .slc), (27, (.int .i64))] .nil))) .nil))))) (by kernel_rfl) (by kernel_rfl)
    (Eq.mp (by kernel_rfl : f35 p0 K w = evFn Try.prog Try.f35 [] [] [] (.two .nil (.two .nil (.two (.two .nil (.one (.loop [(3, (.int .i64)), (11, (.int .i64))] .nil))) (.two .nil (.two (.two .nil (.one (.loop [(6, .slc), (27, (.int .i64))] .nil))) .nil))))) [(.slice p0.a p0.len p0.cap)] [(.one .slc)] K w) h)

/-- (sallyport/descr.Descr).parts -/
def f46 (p0_0 : Int) (p0_1 : Int) (p0_2 : Int) (p0_3 : Int) (p0_4 : Int) (p0_5 : Int) (p0_6 : ByteArray) (p0_7 : Sl) (p0_8 : Sl) (p0_9 : Sl) (p0_10 : Sl) (K : Sl → World → Prop) (w : World) : Prop :=
  semS Try.prog (Instr.box 27 (.agg #[(.int .i64 p0_0), (.int .i64 p0_1), (.int .i64 p0_2), (.int .i64 p0_3), (.int .i64 p0_4), (.int .i64 p0_5), (.string p0_6), (.slice p0_7.a p0_7.len p0_7.cap), (.slice p0_8.a p0_8.len p0_8.cap), (.slice p0_9.a p0_9.len p0_9.cap), (.slice p0_10.a p0_10.len p0_10.cap)])) (.one .adr) (fun x1 w =>
  semS Try.prog (Instr.loadAt 9 (.pointer (some (x1.add 6)))) (.one .str) (fun x2 w =>
  semS Try.prog (convert 9 25 (.string x2)) (.one .slc) (fun x3 w =>
  semS Try.prog (Instr.loadAt 25 (.pointer (some (x1.add 7)))) (.one .slc) (fun x4 w =>
  semS Try.prog (Instr.loadAt 25 (.pointer (some (x1.add 8)))) (.one .slc) (fun x5 w =>
  semS Try.prog (Instr.loadAt 25 (.pointer (some (x1.add 9)))) (.one .slc) (fun x6 w =>
  semS Try.prog (Instr.loadAt 25 (.pointer (some (x1.add 10)))) (.one .slc) (fun x7 w =>
  semS Try.prog (Instr.buildSlice 72 5 #[(0, (.slice x3.a x3.len x3.cap)), (1, (.slice x4.a x4.len x4.cap)), (2, (.slice x5.a x5.len x5.cap)), (3, (.slice x6.a x6.len x6.cap)), (4, (.slice x7.a x7.len x7.cap))]) (.one .slc) (fun x8 w =>
  K x8 w) w) w) w) w) w) w) w) w
theorem f46_ok {p0_0 : Int} {p0_1 : Int} {p0_2 : Int} {p0_3 : Int} {p0_4 : Int} {p0_5 : Int} {p0_6 : ByteArray} {p0_7 : Sl} {p0_8 : Sl} {p0_9 : Sl} {p0_10 : Sl} {K : Sl → World → Prop} {w : World} (h : f46 p0_0 p0_1 p0_2 p0_3 p0_4 p0_5 p0_6 p0_7 p0_8 p0_9 p0_10 K w) : callS Try.prog 46 #[(.agg #[(.int .i64 p0_0), (.int .i64 p0_1), (.int .i64 p0_2), (.int .i64 p0_3), (.int .i64 p0_4), (.int .i64 p0_5), (.string p0_6), (.slice p0_7.a p0_7.len p0_7.cap), (.slice p0_8.a p0_8.len p0_8.cap), (.slice p0_9.a p0_9.len p0_9.cap), (.slice p0_10.a p0_10.len p0_10.cap)])] [(.one .slc)] K w :=
  calls_of_fn (args := [(.agg #[(.int .i64 p0_0), (.int .i64 p0_1), (.int .i64 p0_2), (.int .i64 p0_3), (.int .i64 p0_4), (.int .i64 p0_5), (.string p0_6), (.slice p0_7.a p0_7.len p0_7.cap), (.slice p0_8.a p0_8.len p0_8.cap), (.slice p0_9.a p0_9.len p0_9.cap), (.slice p0_10.a p0_10.len p0_10.cap)])]) Try.f46 [] [] [] .nil (by kernel_rfl) (by kernel_rfl)
    (Eq.mp (by kernel_rfl : f46 p0_0 p0_1 p0_2 p0_3 p0_4 p0_5 p0_6 p0_7 p0_8 p0_9 p0_10 K w = evFn Try.prog Try.f46 [] [] [] .nil [(.agg #[(.int .i64 p0_0), (.int .i64 p0_1), (.int .i64 p0_2), (.int .i64 p0_3), (.int .i64 p0_4), (.int .i64 p0_5), (.string p0_6), (.slice p0_7.a p0_7.len p0_7.cap), (.slice p0_8.a p0_8.len p0_8.cap), (.slice p0_9.a p0_9.len p0_9.cap), (.slice p0_10.a p0_10.len p0_10.cap)])] [(.one .slc)] K w) h)

/-- sallyport/span.Align -/
def f57 (p0 : Int) (p1 : Int) (K : Int → Int → World → Prop) (w : World) : Prop :=
  cond (((decide (p0 < 0)) || (decide (p1 < 1))) || (decide (p1 > 65536)))
    (K 0 12 w)
    (cond (decide (p0 > 4611686018427387904))
      (K 0 11 w)
      (semS Try.prog (binS .quo 3 (.tmp 24) (.tmp 25) (.int .i64 (IntKind.wrap .i64 ((IntKind.wrap .i64 (p0 + p1)) - 1))) (.int .i64 p1)) (.one (.int .i64)) (fun x1 w =>
      cond (decide ((IntKind.wrap .i64 (x1 * p1)) ≤ 4611686018427387904))
        (K (IntKind.wrap .i64 (x1 * p1)) 0 w)
        (K 0 11 w)) w))
theorem f57_ok {p0 : Int} {p1 : Int} {K : Int → Int → World → Prop} {w : World} (h : f57 p0 p1 K w) : callS Try.prog 57 #[(.int .i64 p0), (.int .i64 p1)] [(.one (.int .i64)), (.one (.int .i64))] K w :=
  calls_of_fn (args := [(.int .i64 p0), (.int .i64 p1)]) Try.f57 [] [] [] .nil (by kernel_rfl) (by kernel_rfl)
    (Eq.mp (by kernel_rfl : f57 p0 p1 K w = evFn Try.prog Try.f57 [] [] [] .nil [(.int .i64 p0), (.int .i64 p1)] [(.one (.int .i64)), (.one (.int .i64))] K w) h)

/-- sallyport/span.Pad -/
def f47 (p0 : Sl) (p1 : Int) (K : Sl → Int → World → Prop) (w : World) : Prop :=
  callS Try.prog 57 #[(.int .i64 (p0.len : Int)), (.int .i64 p1)] [(.one (.int .i64)), (.one (.int .i64))] (fun r1 r2 w =>
  cond (r2 != 0)
    (K (⟨none, 0, 0⟩) r2 w)
    (callS Try.prog 48 #[(.slice p0.a p0.len p0.cap)] [(.one .slc)] (fun r3 w =>
    semS Try.prog (Builtin.append_ #[25, 3] 25 #[(.slice r3.a r3.len r3.cap), (.int .i64 (IntKind.wrap .i64 (r1 - (p0.len : Int))))]) (.one .slc) (fun r4 w =>
    K r4 0 w) w) w)) w
theorem f47_ok {p0 : Sl} {p1 : Int} {K : Sl → Int → World → Prop} {w : World} (h : f47 p0 p1 K w) : callS Try.prog 47 #[(.slice p0.a p0.len p0.cap), (.int .i64 p1)] [(.one .slc), (.one (.int .i64))] K w :=
  calls_of_fn (args := [(.slice p0.a p0.len p0.cap), (.int .i64 p1)]) Try.f47 [] [] [] .nil (by kernel_rfl) (by kernel_rfl)
    (Eq.mp (by kernel_rfl : f47 p0 p1 K w = evFn Try.prog Try.f47 [] [] [] .nil [(.slice p0.a p0.len p0.cap), (.int .i64 p1)] [(.one .slc), (.one (.int .i64))] K w) h)

/-- (sallyport/descr.Descr).body -/
def f33 (p0_0 : Int) (p0_1 : Int) (p0_2 : Int) (p0_3 : Int) (p0_4 : Int) (p0_5 : Int) (p0_6 : ByteArray) (p0_7 : Sl) (p0_8 : Sl) (p0_9 : Sl) (p0_10 : Sl) (K : Sl → World → Prop) (w : World) : Prop :=
  semS Try.prog (Instr.box 27 (.agg #[(.int .i64 p0_0), (.int .i64 p0_1), (.int .i64 p0_2), (.int .i64 p0_3), (.int .i64 p0_4), (.int .i64 p0_5), (.string p0_6), (.slice p0_7.a p0_7.len p0_7.cap), (.slice p0_8.a p0_8.len p0_8.cap), (.slice p0_9.a p0_9.len p0_9.cap), (.slice p0_10.a p0_10.len p0_10.cap)])) (.one .adr) (fun x1 w =>
  semS Try.prog (Instr.loadAt 3 (.pointer (some (x1.add 1)))) (.one (.int .i64)) (fun x2 w =>
  semS Try.prog (Instr.loadAt 3 (.pointer (some (x1.add 2)))) (.one (.int .i64)) (fun x3 w =>
  semS Try.prog (Instr.loadAt 3 (.pointer (some (x1.add 3)))) (.one (.int .i64)) (fun x4 w =>
  semS Try.prog (Instr.loadAt 3 (.pointer (some (x1.add 4)))) (.one (.int .i64)) (fun x5 w =>
  semS Try.prog (Instr.loadAt 3 (.pointer (some (x1.add 5)))) (.one (.int .i64)) (fun x6 w =>
  semS Try.prog (Instr.buildSlice 71 5 #[(0, (.agg #[(.int .i64 4), (.int .i64 x2)])), (1, (.agg #[(.int .i64 8), (.int .i64 x3)])), (2, (.agg #[(.int .i64 4), (.int .i64 x4)])), (3, (.agg #[(.int .i64 8), (.int .i64 x5)])), (4, (.agg #[(.int .i64 4), (.int .i64 x6)]))]) (.one .slc) (fun x7 w =>
  loopS (σ := Sl × Int) (fun s8 w again9 =>
    cond (decide (s8.2 < (x7.len : Int)))
      (semS Try.prog (Instr.indexAt 71 (.slice x7.a x7.len x7.cap) (.int .i64 s8.2)) (.one .adr) (fun x10 w =>
      semS Try.prog (Instr.loadAt 70 (.pointer (some x10))) (.agg [(.int .i64), (.int .i64)]) (fun x11 x12 w =>
      semS Try.prog (Instr.alloc 70 true (.tuple #[])) (.one .adr) (fun x13 w =>
      semU Try.prog (Instr.storeAt 70 (.pointer (some x13)) (.agg #[(.int .i64 x11), (.int .i64 x12)])) (fun w =>
      semS Try.prog (Instr.indexAt 70 (.pointer (some x13)) (.int .i64 0)) (.one .adr) (fun x14 w =>
      semS Try.prog (Instr.loadAt 3 (.pointer (some x14))) (.one (.int .i64)) (fun x15 w =>
      semS Try.prog (Instr.indexAt 70 (.pointer (some x13)) (.int .i64 1)) (.one .adr) (fun x16 w =>
      semS Try.prog (Instr.loadAt 3 (.pointer (some x16))) (.one (.int .i64)) (fun x17 w =>
      callS Try.prog 34 #[(.slice s8.1.a s8.1.len s8.1.cap), (.int .i64 x15), (.int .i64 x17)] [(.one .slc), (.one (.int .i64))] (fun r18 r19 w =>
      again9 (r18, IntKind.wrap .i64 (s8.2 + 1)) w) w) w) w) w) w) w) w) w) w)
      (semS Try.prog (Instr.loadAt 27 (.pointer (some x1))) (.agg [(.int .i64), (.int .i64), (.int .i64), (.int .i64), (.int .i64), (.int .i64), .str, .slc, .slc, .slc, .slc]) (fun x20 x21 x22 x23 x24 x25 x26 x27 x28 x29 x30 w =>
      callS Try.prog 46 #[(.agg #[(.int .i64 x20), (.int .i64 x21), (.int .i64 x22), (.int .i64 x23), (.int .i64 x24), (.int .i64 x25), (.string x26), (.slice x27.a x27.len x27.cap), (.slice x28.a x28.len x28.cap), (.slice x29.a x29.len x29.cap), (.slice x30.a x30.len x30.cap)])] [(.one .slc)] (fun r31 w =>
      loopS (σ := Sl × Int) (fun s32 w again33 =>
        cond (decide (s32.2 < (r31.len : Int)))
          (semS Try.prog (Instr.indexAt 72 (.slice r31.a r31.len r31.cap) (.int .i64 s32.2)) (.one .adr) (fun x34 w =>
          semS Try.prog (Instr.loadAt 25 (.pointer (some x34))) (.one .slc) (fun x35 w =>
          callS Try.prog 34 #[(.slice s32.1.a s32.1.len s32.1.cap), (.int .i64 4), (.int .i64 (x35.len : Int))] [(.one .slc), (.one (.int .i64))] (fun r36 r37 w =>
          again33 (r36, IntKind.wrap .i64 (s32.2 + 1)) w) w) w) w)
          (semS Try.prog (Instr.loadAt 27 (.pointer (some x1))) (.agg [(.int .i64), (.int .i64), (.int .i64), (.int .i64), (.int .i64), (.int .i64), .str, .slc, .slc, .slc, .slc]) (fun x38 x39 x40 x41 x42 x43 x44 x45 x46 x47 x48 w =>
          callS Try.prog 46 #[(.agg #[(.int .i64 x38), (.int .i64 x39), (.int .i64 x40), (.int .i64 x41), (.int .i64 x42), (.int .i64 x43), (.string x44), (.slice x45.a x45.len x45.cap), (.slice x46.a x46.len x46.cap), (.slice x47.a x47.len x47.cap), (.slice x48.a x48.len x48.cap)])] [(.one .slc)] (fun r49 w =>
          callS Try.prog 35 #[(.slice r49.a r49.len r49.cap)] [(.one .slc)] (fun r50 w =>
          semS Try.prog (Instr.buildSlice 72 2 #[(0, (.slice s32.1.a s32.1.len s32.1.cap)), (1, (.slice r50.a r50.len r50.cap))]) (.one .slc) (fun x51 w =>
          callS Try.prog 35 #[(.slice x51.a x51.len x51.cap)] [(.one .slc)] (fun r52 w =>
          callS Try.prog 47 #[(.slice r52.a r52.len r52.cap), (.int .i64 8)] [(.one .slc), (.one (.int .i64))] (fun r53 r54 w =>
          K r53 w) w) w) w) w) w) w)) (s8.1, 0) w) w) w)) (⟨none, 0, 0⟩, 0) w) w) w) w) w) w) w) w
theorem f33_ok {p0_0 : Int} {p0_1 : Int} {p0_2 : Int} {p0_3 : Int} {p0_4 : Int} {p0_5 : Int} {p0_6 : ByteArray} {p0_7 : Sl} {p0_8 : Sl} {p0_9 : Sl} {p0_10 : Sl} {K : Sl → World → Prop} {w : World} (h : f33 p0_0 p0_1 p0_2 p0_3 p0_4 p0_5 p0_6 p0_7 p0_8 p0_9 p0_10 K w) : callS Try.prog 33 #[(.agg #[(.int .i64 p0_0), (.int .i64 p0_1), (.int .i64 p0_2), (.int .i64 p0_3), (.int .i64 p0_4), (.int .i64 p0_5), (.string p0_6), (.slice p0_7.a p0_7.len p0_7.cap), (.slice p0_8.a p0_8.len p0_8.cap), (.slice p0_9.a p0_9.len p0_9.cap), (.slice p0_10.a p0_10.len p0_10.cap)])] [(.one .slc)] K w :=
  calls_of_fn (args := [(.agg #[(.int .i64 p0_0), (.int .i64 p0_1), (.int .i64 p0_2), (.int .i64 p0_3), (.int .i64 p0_4), (.int .i64 p0_5), (.string p0_6), (.slice p0_7.a p0_7.len p0_7.cap), (.slice p0_8.a p0_8.len p0_8.cap), (.slice p0_9.a p0_9.len p0_9.cap), (.slice p0_10.a p0_10.len p0_10.cap)])]) Try.f33 [] [] [] (.two .nil (.two .nil (.two (.two .nil (.one (.loop [(3, .slc), (25, (.int .i64))] .nil))) (.two (.two .nil (.one (.loop [(3, .slc), (42, (.int .i64))] .nil))) .nil)))) (by kernel_rfl) (by kernel_rfl)
    (Eq.mp (by kernel_rfl : f33 p0_0 p0_1 p0_2 p0_3 p0_4 p0_5 p0_6 p0_7 p0_8 p0_9 p0_10 K w = evFn Try.prog Try.f33 [] [] [] (.two .nil (.two .nil (.two (.two .nil (.one (.loop [(3, .slc), (25, (.int .i64))] .nil))) (.two (.two .nil (.one (.loop [(3, .slc), (42, (.int .i64))] .nil))) .nil)))) [(.agg #[(.int .i64 p0_0), (.int .i64 p0_1), (.int .i64 p0_2), (.int .i64 p0_3), (.int .i64 p0_4), (.int .i64 p0_5), (.string p0_6), (.slice p0_7.a p0_7.len p0_7.cap), (.slice p0_8.a p0_8.len p0_8.cap), (.slice p0_9.a p0_9.len p0_9.cap), (.slice p0_10.a p0_10.len p0_10.cap)])] [(.one .slc)] K w) h)

/-- sallyport/descr.Encode -/
def f13 (p0 : Sl) (K : Sl → Int → World → Prop) (w : World) : Prop :=
  cond (decide ((p0.len : Int) > 32))
    (K (⟨none, 0, 0⟩) 11 w)
    (callS Try.prog 30 #[(.slice p0.a p0.len p0.cap), (.func (.func 31) #[] #[])] [(.one .bool)] (fun r1 w =>
    cond r1
      (K (⟨none, 0, 0⟩) 12 w)
      (loopS (σ := Sl × Int) (fun s2 w again3 =>
        cond (decide (s2.2 < (p0.len : Int)))
          (semS Try.prog (Instr.indexAt 22 (.slice p0.a p0.len p0.cap) (.int .i64 s2.2)) (.one .adr) (fun x4 w =>
          semS Try.prog (Instr.loadAt 27 (.pointer (some x4))) (.agg [(.int .i64), (.int .i64), (.int .i64), (.int .i64), (.int .i64), (.int .i64), .str, .slc, .slc, .slc, .slc]) (fun x5 x6 x7 x8 x9 x10 x11 x12 x13 x14 x15 w =>
          semS Try.prog (Instr.alloc 27 true (.tuple #[])) (.one .adr) (fun x16 w =>
          semU Try.prog (Instr.storeAt 27 (.pointer (some x16)) (.agg #[(.int .i64 x5), (.int .i64 x6), (.int .i64 x7), (.int .i64 x8), (.int .i64 x9), (.int .i64 x10), (.string x11), (.slice x12.a x12.len x12.cap), (.slice x13.a x13.len x13.cap), (.slice x14.a x14.len x14.cap), (.slice x15.a x15.len x15.cap)])) (fun w =>
          drawS w fun C w =>
          semQ Try.prog C (Instr.sliceAt 22 (.slice p0.a p0.len p0.cap) none (some (.int .i64 s2.2)) none) (.one .slc) (fun x17 =>
          semQ Try.prog C (Instr.loadAt 27 (.pointer (some x16))) (.agg [(.int .i64), (.int .i64), (.int .i64), (.int .i64), (.int .i64), (.int .i64), .str, .slc, .slc, .slc, .slc]) (fun x18 x19 x20 x21 x22 x23 x24 x25 x26 x27 x28 =>
          callS Try.prog 30 #[(.slice x17.a x17.len x17.cap), (.func (.func 32) #[(.agg #[(.int .i64 x18), (.int .i64 x19), (.int .i64 x20), (.int .i64 x21), (.int .i64 x22), (.int .i64 x23), (.string x24), (.slice x25.a x25.len x25.cap), (.slice x26.a x26.len x26.cap), (.slice x27.a x27.len x27.cap), (.slice x28.a x28.len x28.cap)])] #[])] [(.one .bool)] (fun r29 w =>
          cond r29
            (K (⟨none, 0, 0⟩) 35 w)
            (semS Try.prog (Instr.loadAt 27 (.pointer (some x16))) (.agg [(.int .i64), (.int .i64), (.int .i64), (.int .i64), (.int .i64), (.int .i64), .str, .slc, .slc, .slc, .slc]) (fun x30 x31 x32 x33 x34 x35 x36 x37 x38 x39 x40 w =>
            callS Try.prog 33 #[(.agg #[(.int .i64 x30), (.int .i64 x31), (.int .i64 x32), (.int .i64 x33), (.int .i64 x34), (.int .i64 x35), (.string x36), (.slice x37.a x37.len x37.cap), (.slice x38.a x38.len x38.cap), (.slice x39.a x39.len x39.cap), (.slice x40.a x40.len x40.cap)])] [(.one .slc)] (fun r41 w =>
            semS Try.prog (Instr.loadAt 3 (.pointer (some (x16.add 0)))) (.one (.int .i64)) (fun x42 w =>
            callS Try.prog 34 #[(.slice s2.1.a s2.1.len s2.1.cap), (.int .i64 8), (.int .i64 x42)] [(.one .slc), (.one (.int .i64))] (fun r43 r44 w =>
            callS Try.prog 34 #[(.slice r43.a r43.len r43.cap), (.int .i64 8), (.int .i64 (r41.len : Int))] [(.one .slc), (.one (.int .i64))] (fun r45 r46 w =>
            semS Try.prog (Instr.buildSlice 72 2 #[(0, (.slice r45.a r45.len r45.cap)), (1, (.slice r41.a r41.len r41.cap))]) (.one .slc) (fun x47 w =>
            callS Try.prog 35 #[(.slice x47.a x47.len x47.cap)] [(.one .slc)] (fun r48 w =>
            again3 (r48, IntKind.wrap .i64 (s2.2 + 1)) w) w) w) w) w) w) w) w)) w))) w) w) w) w)
          (K s2.1 0 w)) (⟨none, 0, 0⟩, 0) w)) w)
theorem f13_ok {p0 : Sl} {K : Sl → Int → World → Prop} {w : World} (h : f13 p0 K w) : callS Try.prog 13 #[(.slice p0.a p0.len p0.cap)] [(.one .slc), (.one (.int .i64))] K w :=
  calls_of_fn (args := [(.slice p0.a p0.len p0.cap)]) Try.f13 [] [] [] (.two .nil (.two .nil (.two .nil (.two .nil (.two (.two .nil (.one (.loop [(4, .slc), (15, (.int .i64))] (.two .nil (.two .nil (.two (.one (.two .nil (.two (.two (.draw [0, 0, 3, 0, 8, 31]) .nil) .nil))) .nil)))))) .nil))))) (by kernel_rfl) (by kernel_rfl)
    (Eq.mp (by kernel_rfl : f13 p0 K w = evFn Try.prog Try.f13 [] [] [] (.two .nil (.two .nil (.two .nil (.two .nil (.two (.two .nil (.one (.loop [(4, .slc), (15, (.int .i64))] (.two .nil (.two .nil (.two (.one (.two .nil (.two (.two (.draw [0, 0, 3, 0, 8, 31]) .nil) .nil))) .nil)))))) .nil))))) [(.slice p0.a p0.len p0.cap)] [(.one .slc), (.one (.int .i64))] K w) h)

/-- sallyport/span.Within -/
def f51 (p0 : Int) (p1 : Int) (p2 : Int) (K : Bool → World → Prop) (w : World) : Prop :=
  K (((((decide (p0 ≥ 0)) && (decide (p1 ≥ 0))) && (decide (p2 ≥ 0))) && (decide (p0 ≤ p2))) && (decide (p1 ≤ (IntKind.wrap .i64 (p2 - p0))))) w
theorem f51_ok {p0 : Int} {p1 : Int} {p2 : Int} {K : Bool → World → Prop} {w : World} (h : f51 p0 p1 p2 K w) : callS Try.prog 51 #[(.int .i64 p0), (.int .i64 p1), (.int .i64 p2)] [(.one .bool)] K w :=
  calls_of_fn (args := [(.int .i64 p0), (.int .i64 p1), (.int .i64 p2)]) Try.f51 [] [] [] .nil (by kernel_rfl) (by kernel_rfl)
    (Eq.mp (by kernel_rfl : f51 p0 p1 p2 K w = evFn Try.prog Try.f51 [] [] [] .nil [(.int .i64 p0), (.int .i64 p1), (.int .i64 p2)] [(.one .bool)] K w) h)

/-- sallyport/span.Get -/
def f38 (p0 : Sl) (p1 : Int) (p2 : Int) (K : Int → Int → World → Prop) (w : World) : Prop :=
  cond ((decide (p2 < 1)) || (decide (p2 > 8)))
    (K 0 12 w)
    (callS Try.prog 51 #[(.int .i64 p1), (.int .i64 p2), (.int .i64 (p0.len : Int))] [(.one .bool)] (fun r1 w =>
    cond (!r1)
      (K 0 10 w)
      (semS Try.prog (Instr.sliceAt 25 (.slice p0.a p0.len p0.cap) (some (.int .i64 p1)) (some (.int .i64 (IntKind.wrap .i64 (p1 + p2)))) none) (.one .slc) (fun x2 w =>
      loopS (σ := Int × Int) (fun s3 w again4 =>
        cond (decide (s3.2 < (x2.len : Int)))
          (semS Try.prog (Instr.indexAt 25 (.slice x2.a x2.len x2.cap) (.int .i64 s3.2)) (.one .adr) (fun x5 w =>
          semS Try.prog (Instr.loadAt 5 (.pointer (some x5))) (.one (.int .u8)) (fun x6 w =>
          again4 (orI .u64 (shlI .u64 s3.1 8) (IntKind.wrap .u64 x6), IntKind.wrap .i64 (s3.2 + 1)) w) w) w)
          (cond ((shrI .u64 s3.1 63) == 1)
            (K 0 11 w)
            (K (IntKind.wrap .i64 s3.1) 0 w))) (0, 0) w) w)) w)
theorem f38_ok {p0 : Sl} {p1 : Int} {p2 : Int} {K : Int → Int → World → Prop} {w : World} (h : f38 p0 p1 p2 K w) : callS Try.prog 38 #[(.slice p0.a p0.len p0.cap), (.int .i64 p1), (.int .i64 p2)] [(.one (.int .i64)), (.one (.int .i64))] K w :=
  calls_of_fn (args := [(.slice p0.a p0.len p0.cap), (.int .i64 p1), (.int .i64 p2)]) Try.f38 [] [] [] (.two .nil (.two .nil (.two .nil (.two (.two .nil (.one (.loop [(8, (.int .u64)), (32, (.int .i64))] .nil))) .nil)))) (by kernel_rfl) (by kernel_rfl)
    (Eq.mp (by kernel_rfl : f38 p0 p1 p2 K w = evFn Try.prog Try.f38 [] [] [] (.two .nil (.two .nil (.two .nil (.two (.two .nil (.one (.loop [(8, (.int .u64)), (32, (.int .i64))] .nil))) .nil)))) [(.slice p0.a p0.len p0.cap), (.int .i64 p1), (.int .i64 p2)] [(.one (.int .i64)), (.one (.int .i64))] K w) h)

/-- sallyport/span.Cut -/
def f52 (p0 : Sl) (p1 : Int) (p2 : Int) (K : Sl → Int → World → Prop) (w : World) : Prop :=
  callS Try.prog 51 #[(.int .i64 p1), (.int .i64 p2), (.int .i64 (p0.len : Int))] [(.one .bool)] (fun r1 w =>
  cond (!r1)
    (K (⟨none, 0, 0⟩) 10 w)
    (semS Try.prog (Instr.sliceAt 25 (.slice p0.a p0.len p0.cap) (some (.int .i64 p1)) (some (.int .i64 (IntKind.wrap .i64 (p1 + p2)))) none) (.one .slc) (fun x2 w =>
    callS Try.prog 48 #[(.slice x2.a x2.len x2.cap)] [(.one .slc)] (fun r3 w =>
    K r3 0 w) w) w)) w
theorem f52_ok {p0 : Sl} {p1 : Int} {p2 : Int} {K : Sl → Int → World → Prop} {w : World} (h : f52 p0 p1 p2 K w) : callS Try.prog 52 #[(.slice p0.a p0.len p0.cap), (.int .i64 p1), (.int .i64 p2)] [(.one .slc), (.one (.int .i64))] K w :=
  calls_of_fn (args := [(.slice p0.a p0.len p0.cap), (.int .i64 p1), (.int .i64 p2)]) Try.f52 [] [] [] .nil (by kernel_rfl) (by kernel_rfl)
    (Eq.mp (by kernel_rfl : f52 p0 p1 p2 K w = evFn Try.prog Try.f52 [] [] [] .nil [(.slice p0.a p0.len p0.cap), (.int .i64 p1), (.int .i64 p2)] [(.one .slc), (.one (.int .i64))] K w) h)

/-- bytes.Equal -/
def f53 (p0 : Sl) (p1 : Sl) (K : Bool → World → Prop) (w : World) : Prop :=
  semS Try.prog (convert 25 9 (.slice p0.a p0.len p0.cap)) (.one .str) (fun x1 w =>
  semS Try.prog (convert 25 9 (.slice p1.a p1.len p1.cap)) (.one .str) (fun x2 w =>
  K (x1.toList == x2.toList) w) w) w
theorem f53_ok {p0 : Sl} {p1 : Sl} {K : Bool → World → Prop} {w : World} (h : f53 p0 p1 K w) : callS Try.prog 53 #[(.slice p0.a p0.len p0.cap), (.slice p1.a p1.len p1.cap)] [(.one .bool)] K w :=
  calls_of_fn (args := [(.slice p0.a p0.len p0.cap), (.slice p1.a p1.len p1.cap)]) Try.f53 [] [] [] .nil (by kernel_rfl) (by kernel_rfl)
    (Eq.mp (by kernel_rfl : f53 p0 p1 K w = evFn Try.prog Try.f53 [] [] [] .nil [(.slice p0.a p0.len p0.cap), (.slice p1.a p1.len p1.cap)] [(.one .bool)] K w) h)

def f39_t1 (x1 : Addr) (z74 : Bool) (K : Int → Int → Int → Int → Int → Int → ByteArray → Sl → Sl → Sl → Sl → Bool → World → Prop) (w : World) : Prop :=
  ∃ v75, (loadVar 27 x1).run Try.prog w = .ok v75 w ∧ decR [(.agg [(.int .i64), (.int .i64), (.int .i64), (.int .i64), (.int .i64), (.int .i64), .str, .slc, .slc, .slc, .slc]), (.one .bool)] (.tuple #[v75, (.bool z74)]) K fun r => r w

/-- sallyport/descr.read -/
def f39 (p0 : Int) (p1 : Sl) (K : Int → Int → Int → Int → Int → Int → ByteArray → Sl → Sl → Sl → Sl → Bool → World → Prop) (w : World) : Prop :=
  semS Try.prog (Instr.alloc 27 true (.tuple #[])) (.one .adr) (fun x1 w =>
  cond (decide ((p1.len : Int) < 48))
    (semU Try.prog (Instr.storeAt 27 (.pointer (some x1)) (.agg #[(.int .i64 0), (.int .i64 0), (.int .i64 0), (.int .i64 0), (.int .i64 0), (.int .i64 0), (.string ByteArray.empty), (.slice none 0 0), (.slice none 0 0), (.slice none 0 0), (.slice none 0 0)])) (fun w =>
    ∃ v2, (loadVar 27 x1).run Try.prog w = .ok v2 w ∧ decR [(.agg [(.int .i64), (.int .i64), (.int .i64), (.int .i64), (.int .i64), (.int .i64), .str, .slc, .slc, .slc, .slc]), (.one .bool)] (.tuple #[v2, (.bool false)]) K fun r => r w) w)
    (semS Try.prog (Instr.alloc 27 true (.tuple #[])) (.one .adr) (fun x3 w =>
    semU Try.prog (Instr.storeAt 27 (.pointer (some x3)) (.agg #[(.int .i64 p0), (.int .i64 0), (.int .i64 0), (.int .i64 0), (.int .i64 0), (.int .i64 0), (.string ByteArray.empty), (.slice none 0 0), (.slice none 0 0), (.slice none 0 0), (.slice none 0 0)])) (fun w =>
    semS Try.prog (Instr.buildSlice 82 5 #[(0, (.agg #[(.pointer (some (x3.add 1))), (.int .i64 4)])), (1, (.agg #[(.pointer (some (x3.add 2))), (.int .i64 8)])), (2, (.agg #[(.pointer (some (x3.add 3))), (.int .i64 4)])), (3, (.agg #[(.pointer (some (x3.add 4))), (.int .i64 8)])), (4, (.agg #[(.pointer (some (x3.add 5))), (.int .i64 4)]))]) (.one .slc) (fun x4 w =>
    loopS (σ := Int × Int) (fun s5 w again6 =>
      cond (decide (s5.2 < (x4.len : Int)))
        (semS Try.prog (Instr.indexAt 82 (.slice x4.a x4.len x4.cap) (.int .i64 s5.2)) (.one .adr) (fun x7 w =>
        semS Try.prog (Instr.loadAt 81 (.pointer (some x7))) (.agg [.ptr, (.int .i64)]) (fun x8 x9 w =>
        semS Try.prog (Instr.alloc 81 true (.tuple #[])) (.one .adr) (fun x10 w =>
        semU Try.prog (Instr.storeAt 81 (.pointer (some x10)) (.agg #[(.pointer x8), (.int .i64 x9)])) (fun w =>
        semS Try.prog (Instr.loadAt 3 (.pointer (some (x10.add 1)))) (.one (.int .i64)) (fun x11 w =>
        callS Try.prog 38 #[(.slice p1.a p1.len p1.cap), (.int .i64 s5.1), (.int .i64 x11)] [(.one (.int .i64)), (.one (.int .i64))] (fun r12 r13 w =>
        cond (r13 != 0)
          (semU Try.prog (Instr.storeAt 27 (.pointer (some x1)) (.agg #[(.int .i64 0), (.int .i64 0), (.int .i64 0), (.int .i64 0), (.int .i64 0), (.int .i64 0), (.string ByteArray.empty), (.slice none 0 0), (.slice none 0 0), (.slice none 0 0), (.slice none 0 0)])) (fun w =>
          ∃ v14, (loadVar 27 x1).run Try.prog w = .ok v14 w ∧ decR [(.agg [(.int .i64), (.int .i64), (.int .i64), (.int .i64), (.int .i64), (.int .i64), .str, .slc, .slc, .slc, .slc]), (.one .bool)] (.tuple #[v14, (.bool false)]) K fun r => r w) w)
          (drawS w fun C w =>
          semQ Try.prog C (Instr.loadAt 80 (.pointer (some (x10.add 0)))) (.one .ptr) (fun x15 =>
          semQ Try.prog C (Instr.loadAt 3 (.pointer (some (x10.add 1)))) (.one (.int .i64)) (fun x16 =>
          nilS x15 fun a17 =>
          semU Try.prog (Instr.storeAt 3 (.pointer (some a17)) (.int .i64 r12)) (fun w =>
          moreS C w (fun C =>
          again6 (IntKind.wrap .i64 (s5.1 + x16), IntKind.wrap .i64 (s5.2 + 1)) w)) w)))) w) w) w) w) w) w)
        (semS Try.prog (Instr.alloc 83 true (.tuple #[])) (.one .adr) (fun x18 w =>
        loopS (σ := Int × Int × Int) (fun s19 w again20 =>
          cond (decide (s19.2.2 < 5))
            (callS Try.prog 38 #[(.slice p1.a p1.len p1.cap), (.int .i64 s19.1), (.int .i64 4)] [(.one (.int .i64)), (.one (.int .i64))] (fun r21 r22 w =>
            callS Try.prog 52 #[(.slice p1.a p1.len p1.cap), (.int .i64 s19.2.1), (.int .i64 r21)] [(.one .slc), (.one (.int .i64))] (fun r23 r24 w =>
            cond (r24 != 0)
              (semU Try.prog (Instr.storeAt 27 (.pointer (some x1)) (.agg #[(.int .i64 0), (.int .i64 0), (.int .i64 0), (.int .i64 0), (.int .i64 0), (.int .i64 0), (.string ByteArray.empty), (.slice none 0 0), (.slice none 0 0), (.slice none 0 0), (.slice none 0 0)])) (fun w =>
              ∃ v25, (loadVar 27 x1).run Try.prog w = .ok v25 w ∧ decR [(.agg [(.int .i64), (.int .i64), (.int .i64), (.int .i64), (.int .i64), (.int .i64), .str, .slc, .slc, .slc, .slc]), (.one .bool)] (.tuple #[v25, (.bool false)]) K fun r => r w) w)
              (semS Try.prog (Instr.indexAt 83 (.pointer (some x18)) (.int .i64 s19.2.2)) (.one .adr) (fun x26 w =>
              semU Try.prog (Instr.storeAt 25 (.pointer (some x26)) (.slice r23.a r23.len r23.cap)) (fun w =>
              again20 (IntKind.wrap .i64 (s19.1 + 4), IntKind.wrap .i64 (s19.2.1 + r21), IntKind.wrap .i64 (s19.2.2 + 1)) w) w) w)) w) w)
            (drawS w fun C w =>
            semQ Try.prog C (Instr.indexAt 83 (.pointer (some x18)) (.int .i64 0)) (.one .adr) (fun x27 =>
            semQ Try.prog C (Instr.loadAt 25 (.pointer (some x27))) (.one .slc) (fun x28 =>
            semQ Try.prog C (convert 25 9 (.slice x28.a x28.len x28.cap)) (.one .str) (fun x29 =>
            semQ Try.prog C (Instr.indexAt 83 (.pointer (some x18)) (.int .i64 1)) (.one .adr) (fun x30 =>
            semQ Try.prog C (Instr.loadAt 25 (.pointer (some x30))) (.one .slc) (fun x31 =>
            semQ Try.prog C (Instr.indexAt 83 (.pointer (some x18)) (.int .i64 2)) (.one .adr) (fun x32 =>
            semQ Try.prog C (Instr.loadAt 25 (.pointer (some x32))) (.one .slc) (fun x33 =>
            semQ Try.prog C (Instr.indexAt 83 (.pointer (some x18)) (.int .i64 3)) (.one .adr) (fun x34 =>
            semQ Try.prog C (Instr.loadAt 25 (.pointer (some x34))) (.one .slc) (fun x35 =>
            semQ Try.prog C (Instr.indexAt 83 (.pointer (some x18)) (.int .i64 4)) (.one .adr) (fun x36 =>
            semQ Try.prog C (Instr.loadAt 25 (.pointer (some x36))) (.one .slc) (fun x37 =>
            semU Try.prog (Instr.storeAt 9 (.pointer (some (x3.add 6))) (.string x29)) (fun w =>
            moreS C w (fun C =>
            semU Try.prog (Instr.storeAt 25 (.pointer (some (x3.add 7))) (.slice x31.a x31.len x31.cap)) (fun w =>
            moreS C w (fun C =>
            semU Try.prog (Instr.storeAt 25 (.pointer (some (x3.add 8))) (.slice x33.a x33.len x33.cap)) (fun w =>
            moreS C w (fun C =>
            semU Try.prog (Instr.storeAt 25 (.pointer (some (x3.add 9))) (.slice x35.a x35.len x35.cap)) (fun w =>
            moreS C w (fun C =>
            semU Try.prog (Instr.storeAt 25 (.pointer (some (x3.add 10))) (.slice x37.a x37.len x37.cap)) (fun w =>
            drawS w fun C w =>
            semQ Try.prog C (Instr.loadAt 27 (.pointer (some x3))) (.agg [(.int .i64), (.int .i64), (.int .i64), (.int .i64), (.int .i64), (.int .i64), .str, .slc, .slc, .slc, .slc]) (fun x38 x39 x40 x41 x42 x43 x44 x45 x46 x47 x48 =>
            semQ Try.prog C (Instr.loadAt 27 (.pointer (some x3))) (.agg [(.int .i64), (.int .i64), (.int .i64), (.int .i64), (.int .i64), (.int .i64), .str, .slc, .slc, .slc, .slc]) (fun x49 x50 x51 x52 x53 x54 x55 x56 x57 x58 x59 =>
            callS Try.prog 10 #[(.agg #[(.int .i64 x49), (.int .i64 x50), (.int .i64 x51), (.int .i64 x52), (.int .i64 x53), (.int .i64 x54), (.string x55), (.slice x56.a x56.len x56.cap), (.slice x57.a x57.len x57.cap), (.slice x58.a x58.len x58.cap), (.slice x59.a x59.len x59.cap)])] [(.one .bool)] (fun r60 w =>
            moreS C w (fun C =>
            cond r60
              (semQ Try.prog C (Instr.loadAt 27 (.pointer (some x3))) (.agg [(.int .i64), (.int .i64), (.int .i64), (.int .i64), (.int .i64), (.int .i64), .str, .slc, .slc, .slc, .slc]) (fun x61 x62 x63 x64 x65 x66 x67 x68 x69 x70 x71 =>
              callS Try.prog 33 #[(.agg #[(.int .i64 x61), (.int .i64 x62), (.int .i64 x63), (.int .i64 x64), (.int .i64 x65), (.int .i64 x66), (.string x67), (.slice x68.a x68.len x68.cap), (.slice x69.a x69.len x69.cap), (.slice x70.a x70.len x70.cap), (.slice x71.a x71.len x71.cap)])] [(.one .slc)] (fun r72 w =>
              moreS C w (fun C =>
              callS Try.prog 53 #[(.slice r72.a r72.len r72.cap), (.slice p1.a p1.len p1.cap)] [(.one .bool)] (fun r73 w =>
              moreS C w (fun C =>
              semU Try.prog (Instr.storeAt 27 (.pointer (some x1)) (.agg #[(.int .i64 x38), (.int .i64 x39), (.int .i64 x40), (.int .i64 x41), (.int .i64 x42), (.int .i64 x43), (.string x44), (.slice x45.a x45.len x45.cap), (.slice x46.a x46.len x46.cap), (.slice x47.a x47.len x47.cap), (.slice x48.a x48.len x48.cap)])) (fun w =>
              f39_t1 x1 r73 K w) w)) w)) w))
              (semU Try.prog (Instr.storeAt 27 (.pointer (some x1)) (.agg #[(.int .i64 x38), (.int .i64 x39), (.int .i64 x40), (.int .i64 x41), (.int .i64 x42), (.int .i64 x43), (.string x44), (.slice x45.a x45.len x45.cap), (.slice x46.a x46.len x46.cap), (.slice x47.a x47.len x47.cap), (.slice x48.a x48.len x48.cap)])) (fun w =>
              f39_t1 x1 false K w) w))) w))) w)) w)) w)) w)) w))))))))))))) (s5.1, 48, 0) w) w)) (0, 0) w) w) w) w)) w
theorem f39_ok {p0 : Int} {p1 : Sl} {K : Int → Int → Int → Int → Int → Int → ByteArray → Sl → Sl → Sl → Sl → Bool → World → Prop} {w : World} (h : f39 p0 p1 K w) : callS Try.prog 39 #[(.int .i64 p0), (.slice p1.a p1.len p1.cap)] [(.agg [(.int .i64), (.int .i64), (.int .i64), (.int .i64), (.int .i64), (.int .i64), .str, .slc, .slc, .slc, .slc]), (.one .bool)] K w :=
  calls_of_fn (args := [(.int .i64 p0), (.slice p1.a p1.len p1.cap)]) Try.f39 [] [] [] (.two .nil (.two .nil (.two .nil (.two .nil (.two (.two .nil (.one (.loop [(7, (.int .i64)), (37, (.int .i64))] (.two .nil (.two .nil (.two (.one (.two .nil (.two .nil (.two .nil (.draw [0, 1, 0, 0, 0, 16, 56, 7, 135, 511]))))) .nil)))))) (.two .nil (.two .nil (.two (.two .nil (.one (.loop [(7, (.int .i64)), (13, (.int .i64)), (61, (.int .i64))] .nil))) (.two (.draw [0, 1, 3, 0, 8, 0, 32, 0, 128, 0, 512, 7, 2055, 6175, 14367, 30847, 63615, 129535, 260607, 524287, 1048575]) (.two (.draw [0, 0, 2, 6, 14, 30, 14, 126, 254, 255, 1023]) .nil)))))))))) (by kernel_rfl) (by kernel_rfl)
    (Eq.mp (by kernel_rfl : f39 p0 p1 K w = evFn Try.prog Try.f39 [] [] [] (.two .nil (.two .nil (.two .nil (.two .nil (.two (.two .nil (.one (.loop [(7, (.int .i64)), (37, (.int .i64))] (.two .nil (.two .nil (.two (.one (.two .nil (.two .nil (.two .nil (.draw [0, 1, 0, 0, 0, 16, 56, 7, 135, 511]))))) .nil)))))) (.two .nil (.two .nil (.two (.two .nil (.one (.loop [(7, (.int .i64)), (13, (.int .i64)), (61, (.int .i64))] .nil))) (.two (.draw [0, 1, 3, 0, 8, 0, 32, 0, 128, 0, 512, 7, 2055, 6175, 14367, 30847, 63615, 129535, 260607, 524287, 1048575]) (.two (.draw [0, 0, 2, 6, 14, 30, 14, 126, 254, 255, 1023]) .nil)))))))))) [(.int .i64 p0), (.slice p1.a p1.len p1.cap)] [(.agg [(.int .i64), (.int .i64), (.int .i64), (.int .i64), (.int .i64), (.int .i64), .str, .slc, .slc, .slc, .slc]), (.one .bool)] K w) h)

/-- sallyport/descr.Parse -/
def f16 (p0 : Sl) (K : Sl → Int → World → Prop) (w : World) : Prop :=
  loopS (σ := Sl × Int) (fun s1 w again2 =>
    cond (decide (s1.2 < (p0.len : Int)))
      (cond ((s1.1.len : Int) == 32)
        (K (⟨none, 0, 0⟩) 11 w)
        (cond (decide ((IntKind.wrap .i64 ((p0.len : Int) - s1.2)) < 16))
          (K (⟨none, 0, 0⟩) 10 w)
          (callS Try.prog 38 #[(.slice p0.a p0.len p0.cap), (.int .i64 s1.2), (.int .i64 8)] [(.one (.int .i64)), (.one (.int .i64))] (fun r3 r4 w =>
          cond ((r4 != 0) || (decide (r3 > 4)))
            (K (⟨none, 0, 0⟩) 33 w)
            (callS Try.prog 38 #[(.slice p0.a p0.len p0.cap), (.int .i64 (IntKind.wrap .i64 (s1.2 + 8))), (.int .i64 8)] [(.one (.int .i64)), (.one (.int .i64))] (fun r5 r6 w =>
            cond ((r6 != 0) || (decide (r5 > (IntKind.wrap .i64 ((IntKind.wrap .i64 ((p0.len : Int) - s1.2)) - 16)))))
              (K (⟨none, 0, 0⟩) 10 w)
              (semS Try.prog (Instr.sliceAt 25 (.slice p0.a p0.len p0.cap) (some (.int .i64 (IntKind.wrap .i64 (s1.2 + 16)))) (some (.int .i64 (IntKind.wrap .i64 ((IntKind.wrap .i64 (s1.2 + 16)) + r5)))) none) (.one .slc) (fun x7 w =>
              callS Try.prog 39 #[(.int .i64 r3), (.slice x7.a x7.len x7.cap)] [(.agg [(.int .i64), (.int .i64), (.int .i64), (.int .i64), (.int .i64), (.int .i64), .str, .slc, .slc, .slc, .slc]), (.one .bool)] (fun r8 r9 r10 r11 r12 r13 r14 r15 r16 r17 r18 r19 w =>
              semS Try.prog (Instr.alloc 27 true (.tuple #[])) (.one .adr) (fun x20 w =>
              semU Try.prog (Instr.storeAt 27 (.pointer (some x20)) (.agg #[(.int .i64 r8), (.int .i64 r9), (.int .i64 r10), (.int .i64 r11), (.int .i64 r12), (.int .i64 r13), (.string r14), (.slice r15.a r15.len r15.cap), (.slice r16.a r16.len r16.cap), (.slice r17.a r17.len r17.cap), (.slice r18.a r18.len r18.cap)])) (fun w =>
              cond (!r19)
                (K (⟨none, 0, 0⟩) 12 w)
                (semS Try.prog (Instr.loadAt 27 (.pointer (some x20))) (.agg [(.int .i64), (.int .i64), (.int .i64), (.int .i64), (.int .i64), (.int .i64), .str, .slc, .slc, .slc, .slc]) (fun x21 x22 x23 x24 x25 x26 x27 x28 x29 x30 x31 w =>
                callS Try.prog 30 #[(.slice s1.1.a s1.1.len s1.1.cap), (.func (.func 32) #[(.agg #[(.int .i64 x21), (.int .i64 x22), (.int .i64 x23), (.int .i64 x24), (.int .i64 x25), (.int .i64 x26), (.string x27), (.slice x28.a x28.len x28.cap), (.slice x29.a x29.len x29.cap), (.slice x30.a x30.len x30.cap), (.slice x31.a x31.len x31.cap)])] #[])] [(.one .bool)] (fun r32 w =>
                cond r32
                  (K (⟨none, 0, 0⟩) 35 w)
                  (semS Try.prog (Instr.loadAt 27 (.pointer (some x20))) (.agg [(.int .i64), (.int .i64), (.int .i64), (.int .i64), (.int .i64), (.int .i64), .str, .slc, .slc, .slc, .slc]) (fun x33 x34 x35 x36 x37 x38 x39 x40 x41 x42 x43 w =>
                  semS Try.prog (Instr.buildSlice 22 1 #[(0, (.agg #[(.int .i64 x33), (.int .i64 x34), (.int .i64 x35), (.int .i64 x36), (.int .i64 x37), (.int .i64 x38), (.string x39), (.slice x40.a x40.len x40.cap), (.slice x41.a x41.len x41.cap), (.slice x42.a x42.len x42.cap), (.slice x43.a x43.len x43.cap)]))]) (.one .slc) (fun x44 w =>
                  semS Try.prog (Builtin.append_ #[22, 22] 22 #[(.slice s1.1.a s1.1.len s1.1.cap), (.slice x44.a x44.len x44.cap)]) (.one .slc) (fun r45 w =>
                  again2 (r45, IntKind.wrap .i64 ((IntKind.wrap .i64 (s1.2 + 16)) + r5)) w) w) w) w)) w) w)) w) w) w) w)) w)) w)))
      (K s1.1 0 w)) (⟨none, 0, 0⟩, 0) w
theorem f16_ok {p0 : Sl} {K : Sl → Int → World → Prop} {w : World} (h : f16 p0 K w) : callS Try.prog 16 #[(.slice p0.a p0.len p0.cap)] [(.one .slc), (.one (.int .i64))] K w :=
  calls_of_fn (args := [(.slice p0.a p0.len p0.cap)]) Try.f16 [] [] [] (.two .nil (.two .nil (.two (.two .nil (.one (.loop [(4, .slc), (5, (.int .i64))] .nil))) .nil))) (by kernel_rfl) (by kernel_rfl)
    (Eq.mp (by kernel_rfl : f16 p0 K w = evFn Try.prog Try.f16 [] [] [] (.two .nil (.two .nil (.two (.two .nil (.one (.loop [(4, .slc), (5, (.int .i64))] .nil))) .nil))) [(.slice p0.a p0.len p0.cap)] [(.one .slc), (.one (.int .i64))] K w) h)

/-- sallyport/sallyportlaw12.anchor -/
def f8  (K : Bool → World → Prop) (w : World) : Prop :=
  semS Try.prog (Instr.buildSlice 25 5 #[(0, (.int .u8 113)), (1, (.int .u8 117)), (2, (.int .u8 105)), (3, (.int .u8 101)), (4, (.int .u8 116))]) (.one .slc) (fun x1 w =>
  semS Try.prog (convert 25 25 (.slice x1.a x1.len x1.cap)) (.one .slc) (fun x2 w =>
  semS Try.prog (Instr.buildSlice 22 1 #[(0, (.agg #[(.int .i64 3), (.int .i64 0), (.int .i64 0), (.int .i64 0), (.int .i64 0), (.int .i64 0), (.string ByteArray.empty), (.slice none 0 0), (.slice none 0 0), (.slice none 0 0), (.slice x2.a x2.len x2.cap)]))]) (.one .slc) (fun x3 w =>
  callS Try.prog 13 #[(.slice x3.a x3.len x3.cap)] [(.one .slc), (.one (.int .i64))] (fun r4 r5 w =>
  callS Try.prog 16 #[(.slice r4.a r4.len r4.cap)] [(.one .slc), (.one (.int .i64))] (fun r6 r7 w =>
  joinS (σ := Bool) (fun b8 w =>
    K b8 w) fun J9 =>
  cond ((((r5 == 0) && ((r4.len : Int) == 72)) && (r7 == 0)) && ((r6.len : Int) == 1))
    (semS Try.prog (Instr.indexAt 22 (.slice r6.a r6.len r6.cap) (.int .i64 0)) (.one .adr) (fun x10 w =>
      semS Try.prog (Instr.loadAt 25 (.pointer (some (x10.add 10)))) (.one .slc) (fun x11 w =>
      semS Try.prog (convert 25 9 (.slice x11.a x11.len x11.cap)) (.one .str) (fun x12 w =>
      J9 (x12.toList == (ByteArray.mk #[113, 117, 105, 101, 116]).toList) w) w) w) w)
    (J9 false w)) w) w) w) w) w
theorem f8_ok  {K : Bool → World → Prop} {w : World} (h : f8  K w) : callS Try.prog 8 #[] [(.one .bool)] K w :=
  calls_of_fn (args := []) Try.f8 [] [] [] .nil (by kernel_rfl) (by kernel_rfl)
    (Eq.mp (by kernel_rfl : f8  K w = evFn Try.prog Try.f8 [] [] [] .nil [] [(.one .bool)] K w) h)

/-- sallyport/sallyportmade.SmallDescrs -/
def f9 (p0 : Sl) (K : Bool → World → Prop) (w : World) : Prop :=
  loopS (σ := Int) (fun x1 w again2 =>
    cond (decide (x1 < (p0.len : Int)))
      (semS Try.prog (Instr.indexAt 22 (.slice p0.a p0.len p0.cap) (.int .i64 x1)) (.one .adr) (fun x3 w =>
      semS Try.prog (Instr.loadAt 27 (.pointer (some x3))) (.agg [(.int .i64), (.int .i64), (.int .i64), (.int .i64), (.int .i64), (.int .i64), .str, .slc, .slc, .slc, .slc]) (fun x4 x5 x6 x7 x8 x9 x10 x11 x12 x13 x14 w =>
      semS Try.prog (Instr.alloc 27 true (.tuple #[])) (.one .adr) (fun x15 w =>
      semU Try.prog (Instr.storeAt 27 (.pointer (some x15)) (.agg #[(.int .i64 x4), (.int .i64 x5), (.int .i64 x6), (.int .i64 x7), (.int .i64 x8), (.int .i64 x9), (.string x10), (.slice x11.a x11.len x11.cap), (.slice x12.a x12.len x12.cap), (.slice x13.a x13.len x13.cap), (.slice x14.a x14.len x14.cap)])) (fun w =>
      semS Try.prog (Instr.loadAt 9 (.pointer (some (x15.add 6)))) (.one .str) (fun x16 w =>
      joinS (σ := Bool) (fun b17 w =>
        joinS (σ := Bool) (fun b19 w =>
          joinS (σ := Bool) (fun b21 w =>
            joinS (σ := Bool) (fun b23 w =>
              cond b23
                (K false w)
                (again2 (IntKind.wrap .i64 (x1 + 1)) w)) fun J24 =>
            cond b21
              (J24 true w)
              (semS Try.prog (Instr.loadAt 25 (.pointer (some (x15.add 10)))) (.one .slc) (fun x25 w =>
                J24 (decide ((x25.len : Int) > 400)) w) w)) fun J22 =>
          cond b19
            (J22 true w)
            (semS Try.prog (Instr.loadAt 25 (.pointer (some (x15.add 9)))) (.one .slc) (fun x26 w =>
              J22 (decide ((x26.len : Int) > 1100)) w) w)) fun J20 =>
        cond b17
          (J20 true w)
          (semS Try.prog (Instr.loadAt 25 (.pointer (some (x15.add 8)))) (.one .slc) (fun x27 w =>
            J20 (decide ((x27.len : Int) > 200)) w) w)) fun J18 =>
      cond (decide ((x16.size : Int) > 200))
        (J18 true w)
        (semS Try.prog (Instr.loadAt 25 (.pointer (some (x15.add 7)))) (.one .slc) (fun x28 w =>
          J18 (decide ((x28.len : Int) > 200)) w) w)) w) w) w) w) w)
      (K (decide ((p0.len : Int) ≤ 40)) w)) 0 w
theorem f9_ok {p0 : Sl} {K : Bool → World → Prop} {w : World} (h : f9 p0 K w) : callS Try.prog 9 #[(.slice p0.a p0.len p0.cap)] [(.one .bool)] K w :=
  calls_of_fn (args := [(.slice p0.a p0.len p0.cap)]) Try.f9 [] [] [] (.two .nil (.two (.two .nil (.one (.loop [(7, (.int .i64))] .nil))) .nil)) (by kernel_rfl) (by kernel_rfl)
    (Eq.mp (by kernel_rfl : f9 p0 K w = evFn Try.prog Try.f9 [] [] [] (.two .nil (.two (.two .nil (.one (.loop [(7, (.int .i64))] .nil))) .nil)) [(.slice p0.a p0.len p0.cap)] [(.one .bool)] K w) h)

/-- sallyport/sallyportmade.Descr -/
def f11 (p0_0 : Int) (p0_1 : Int) (p0_2 : Int) (p0_3 : Int) (p0_4 : Int) (p0_5 : Int) (p0_6 : ByteArray) (p0_7 : Sl) (p0_8 : Sl) (p0_9 : Sl) (p0_10 : Sl) (K : Int → Int → Int → Int → Int → Int → ByteArray → Sl → Sl → Sl → Sl → World → Prop) (w : World) : Prop :=
  semS Try.prog (Instr.box 27 (.agg #[(.int .i64 p0_0), (.int .i64 p0_1), (.int .i64 p0_2), (.int .i64 p0_3), (.int .i64 p0_4), (.int .i64 p0_5), (.string p0_6), (.slice p0_7.a p0_7.len p0_7.cap), (.slice p0_8.a p0_8.len p0_8.cap), (.slice p0_9.a p0_9.len p0_9.cap), (.slice p0_10.a p0_10.len p0_10.cap)])) (.one .adr) (fun x1 w =>
  semS Try.prog (Instr.alloc 28 true (.tuple #[])) (.one .adr) (fun x2 w =>
  semS Try.prog (Instr.loadAt 27 (.pointer (some x1))) (.agg [(.int .i64), (.int .i64), (.int .i64), (.int .i64), (.int .i64), (.int .i64), .str, .slc, .slc, .slc, .slc]) (fun x3 x4 x5 x6 x7 x8 x9 x10 x11 x12 x13 w =>
  semU Try.prog (Instr.storeAt 28 (.pointer (some x2)) (.agg #[(.int .i64 x3), (.int .i64 x4), (.int .i64 x5), (.int .i64 x6), (.int .i64 x7), (.int .i64 x8), (.string x9), (.slice x10.a x10.len x10.cap), (.slice x11.a x11.len x11.cap), (.slice x12.a x12.len x12.cap), (.slice x13.a x13.len x13.cap)])) (fun w =>
  ∃ v14, (loadVar 28 x2).run Try.prog w = .ok v14 w ∧ decR [(.agg [(.int .i64), (.int .i64), (.int .i64), (.int .i64), (.int .i64), (.int .i64), .str, .slc, .slc, .slc, .slc])] v14 K fun r => r w) w) w) w) w
theorem f11_ok {p0_0 : Int} {p0_1 : Int} {p0_2 : Int} {p0_3 : Int} {p0_4 : Int} {p0_5 : Int} {p0_6 : ByteArray} {p0_7 : Sl} {p0_8 : Sl} {p0_9 : Sl} {p0_10 : Sl} {K : Int → Int → Int → Int → Int → Int → ByteArray → Sl → Sl → Sl → Sl → World → Prop} {w : World} (h : f11 p0_0 p0_1 p0_2 p0_3 p0_4 p0_5 p0_6 p0_7 p0_8 p0_9 p0_10 K w) : callS Try.prog 11 #[(.agg #[(.int .i64 p0_0), (.int .i64 p0_1), (.int .i64 p0_2), (.int .i64 p0_3), (.int .i64 p0_4), (.int .i64 p0_5), (.string p0_6), (.slice p0_7.a p0_7.len p0_7.cap), (.slice p0_8.a p0_8.len p0_8.cap), (.slice p0_9.a p0_9.len p0_9.cap), (.slice p0_10.a p0_10.len p0_10.cap)])] [(.agg [(.int .i64), (.int .i64), (.int .i64), (.int .i64), (.int .i64), (.int .i64), .str, .slc, .slc, .slc, .slc])] K w :=
  calls_of_fn (args := [(.agg #[(.int .i64 p0_0), (.int .i64 p0_1), (.int .i64 p0_2), (.int .i64 p0_3), (.int .i64 p0_4), (.int .i64 p0_5), (.string p0_6), (.slice p0_7.a p0_7.len p0_7.cap), (.slice p0_8.a p0_8.len p0_8.cap), (.slice p0_9.a p0_9.len p0_9.cap), (.slice p0_10.a p0_10.len p0_10.cap)])]) Try.f11 [] [] [] .nil (by kernel_rfl) (by kernel_rfl)
    (Eq.mp (by kernel_rfl : f11 p0_0 p0_1 p0_2 p0_3 p0_4 p0_5 p0_6 p0_7 p0_8 p0_9 p0_10 K w = evFn Try.prog Try.f11 [] [] [] .nil [(.agg #[(.int .i64 p0_0), (.int .i64 p0_1), (.int .i64 p0_2), (.int .i64 p0_3), (.int .i64 p0_4), (.int .i64 p0_5), (.string p0_6), (.slice p0_7.a p0_7.len p0_7.cap), (.slice p0_8.a p0_8.len p0_8.cap), (.slice p0_9.a p0_9.len p0_9.cap), (.slice p0_10.a p0_10.len p0_10.cap)])] [(.agg [(.int .i64), (.int .i64), (.int .i64), (.int .i64), (.int .i64), (.int .i64), .str, .slc, .slc, .slc, .slc])] K w) h)

/-- sallyport/sallyportref12.Named -/
def f26 (p0 : ByteArray) (K : Bool → World → Prop) (w : World) : Prop :=
  cond ((decide ((p0.size : Int) < 1)) || (decide ((p0.size : Int) > 24)))
    (K false w)
    (loopS (σ := Int) (fun x1 w again2 =>
      cond (decide (x1 < (p0.size : Int)))
        (semS Try.prog (Instr.index 9 (.string p0) (.int .i64 x1)) (.one (.int .u8)) (fun x3 w =>
        cond (((!((decide (x3 ≥ 97)) && (decide (x3 ≤ 122)))) && (!((decide (x3 ≥ 48)) && (decide (x3 ≤ 57))))) && (x3 != 95))
          (K false w)
          (again2 (IntKind.wrap .i64 (x1 + 1)) w)) w)
        (K true w)) 0 w)
theorem f26_ok {p0 : ByteArray} {K : Bool → World → Prop} {w : World} (h : f26 p0 K w) : callS Try.prog 26 #[(.string p0)] [(.one .bool)] K w :=
  calls_of_fn (args := [(.string p0)]) Try.f26 [] [] [] (.two .nil (.two .nil (.two (.two .nil (.one (.loop [(3, (.int .i64))] .nil))) .nil))) (by kernel_rfl) (by kernel_rfl)
    (Eq.mp (by kernel_rfl : f26 p0 K w = evFn Try.prog Try.f26 [] [] [] (.two .nil (.two .nil (.two (.two .nil (.one (.loop [(3, (.int .i64))] .nil))) .nil))) [(.string p0)] [(.one .bool)] K w) h)

/-- sallyport/sallyportref07.Size -/
def f27 (p0 : Int) (K : Int → World → Prop) (w : World) : Prop :=
  cond (p0 == 1)
    (K 32 w)
    (cond (p0 == 2)
      (K 64 w)
      (K 0 w))
theorem f27_ok {p0 : Int} {K : Int → World → Prop} {w : World} (h : f27 p0 K w) : callS Try.prog 27 #[(.int .i64 p0)] [(.one (.int .i64))] K w :=
  calls_of_fn (args := [(.int .i64 p0)]) Try.f27 [] [] [] .nil (by kernel_rfl) (by kernel_rfl)
    (Eq.mp (by kernel_rfl : f27 p0 K w = evFn Try.prog Try.f27 [] [] [] .nil [(.int .i64 p0)] [(.one (.int .i64))] K w) h)

/-- (sallyport/sallyportref12.Descr).summed -/
def f28 (p0_0 : Int) (p0_1 : Int) (p0_2 : Int) (p0_3 : Int) (p0_4 : Int) (p0_5 : Int) (p0_6 : ByteArray) (p0_7 : Sl) (p0_8 : Sl) (p0_9 : Sl) (p0_10 : Sl) (K : Bool → World → Prop) (w : World) : Prop :=
  semS Try.prog (Instr.box 28 (.agg #[(.int .i64 p0_0), (.int .i64 p0_1), (.int .i64 p0_2), (.int .i64 p0_3), (.int .i64 p0_4), (.int .i64 p0_5), (.string p0_6), (.slice p0_7.a p0_7.len p0_7.cap), (.slice p0_8.a p0_8.len p0_8.cap), (.slice p0_9.a p0_9.len p0_9.cap), (.slice p0_10.a p0_10.len p0_10.cap)])) (.one .adr) (fun x1 w =>
  drawS w fun C w =>
  semQ Try.prog C (Instr.loadAt 3 (.pointer (some (x1.add 1)))) (.one (.int .i64)) (fun x2 =>
  cond (x2 == 1)
    (semQ Try.prog C (Instr.loadAt 25 (.pointer (some (x1.add 8)))) (.one .slc) (fun x3 =>
      semQ Try.prog C (Instr.loadAt 3 (.pointer (some (x1.add 1)))) (.one (.int .i64)) (fun x4 =>
      callS Try.prog 27 #[(.int .i64 x4)] [(.one (.int .i64))] (fun r5 w =>
      moreS C w (fun C =>
      cond ((x3.len : Int) == r5)
        (semQ Try.prog C (Instr.loadAt 25 (.pointer (some (x1.add 7)))) (.one .slc) (fun x6 =>
        K (decide ((x6.len : Int) ≤ 64)) w))
        (K false w))) w)))
    (semQ Try.prog C (Instr.loadAt 3 (.pointer (some (x1.add 1)))) (.one (.int .i64)) (fun x7 =>
    cond (x7 == 2)
      (semQ Try.prog C (Instr.loadAt 25 (.pointer (some (x1.add 8)))) (.one .slc) (fun x8 =>
      semQ Try.prog C (Instr.loadAt 3 (.pointer (some (x1.add 1)))) (.one (.int .i64)) (fun x9 =>
      callS Try.prog 27 #[(.int .i64 x9)] [(.one (.int .i64))] (fun r10 w =>
      moreS C w (fun C =>
      cond ((x8.len : Int) == r10)
        (semQ Try.prog C (Instr.loadAt 25 (.pointer (some (x1.add 7)))) (.one .slc) (fun x11 =>
        K (decide ((x11.len : Int) ≤ 64)) w))
        (K false w))) w)))
      (K false w))))) w
theorem f28_ok {p0_0 : Int} {p0_1 : Int} {p0_2 : Int} {p0_3 : Int} {p0_4 : Int} {p0_5 : Int} {p0_6 : ByteArray} {p0_7 : Sl} {p0_8 : Sl} {p0_9 : Sl} {p0_10 : Sl} {K : Bool → World → Prop} {w : World} (h : f28 p0_0 p0_1 p0_2 p0_3 p0_4 p0_5 p0_6 p0_7 p0_8 p0_9 p0_10 K w) : callS Try.prog 28 #[(.agg #[(.int .i64 p0_0), (.int .i64 p0_1), (.int .i64 p0_2), (.int .i64 p0_3), (.int .i64 p0_4), (.int .i64 p0_5), (.string p0_6), (.slice p0_7.a p0_7.len p0_7.cap), (.slice p0_8.a p0_8.len p0_8.cap), (.slice p0_9.a p0_9.len p0_9.cap), (.slice p0_10.a p0_10.len p0_10.cap)])] [(.one .bool)] K w :=
  calls_of_fn (args := [(.agg #[(.int .i64 p0_0), (.int .i64 p0_1), (.int .i64 p0_2), (.int .i64 p0_3), (.int .i64 p0_4), (.int .i64 p0_5), (.string p0_6), (.slice p0_7.a p0_7.len p0_7.cap), (.slice p0_8.a p0_8.len p0_8.cap), (.slice p0_9.a p0_9.len p0_9.cap), (.slice p0_10.a p0_10.len p0_10.cap)])]) Try.f28 [] [] [] (.two .nil (.two (.draw [0, 1, 3, 7, 15, 31, 63, 127, 255, 511, 1023, 2047, 511, 4607, 12799, 32767, 65535, 131071, 262143, 524287, 1048575, 2097151, 4194303, 8388607]) .nil)) (by kernel_rfl) (by kernel_rfl)
    (Eq.mp (by kernel_rfl : f28 p0_0 p0_1 p0_2 p0_3 p0_4 p0_5 p0_6 p0_7 p0_8 p0_9 p0_10 K w = evFn Try.prog Try.f28 [] [] [] (.two .nil (.two (.draw [0, 1, 3, 7, 15, 31, 63, 127, 255, 511, 1023, 2047, 511, 4607, 12799, 32767, 65535, 131071, 262143, 524287, 1048575, 2097151, 4194303, 8388607]) .nil)) [(.agg #[(.int .i64 p0_0), (.int .i64 p0_1), (.int .i64 p0_2), (.int .i64 p0_3), (.int .i64 p0_4), (.int .i64 p0_5), (.string p0_6), (.slice p0_7.a p0_7.len p0_7.cap), (.slice p0_8.a p0_8.len p0_8.cap), (.slice p0_9.a p0_9.len p0_9.cap), (.slice p0_10.a p0_10.len p0_10.cap)])] [(.one .bool)] K w) h)

/-- (sallyport/sallyportref08.Shape).Right -/
def f29 (p0_0 : Int) (p0_1 : Int) (p0_2 : Int) (K : Bool → World → Prop) (w : World) : Prop :=
  semS Try.prog (Instr.box 50 (.agg #[(.int .i64 p0_0), (.int .i64 p0_1), (.int .i64 p0_2)])) (.one .adr) (fun x1 w =>
  semS Try.prog (Instr.loadAt 3 (.pointer (some (x1.add 0)))) (.one (.int .i64)) (fun x2 w =>
  joinS (σ := Bool) (fun b3 w =>
    joinS (σ := Bool) (fun b5 w =>
      joinS (σ := Bool) (fun b7 w =>
        cond b7
          (K false w)
          (loopS (σ := Int) (fun x9 w again10 =>
            cond (decide (x9 ≤ 4096))
              (semS Try.prog (Instr.loadAt 3 (.pointer (some (x1.add 1)))) (.one (.int .i64)) (fun x11 w =>
              cond (x11 == x9)
                (K true w)
                (again10 (IntKind.wrap .i64 (2 * x9)) w)) w)
              (K false w)) 64 w)) fun J8 =>
      cond b5
        (J8 true w)
        (semS Try.prog (Instr.loadAt 3 (.pointer (some (x1.add 1)))) (.one (.int .i64)) (fun x12 w =>
          semS Try.prog (Instr.loadAt 3 (.pointer (some (x1.add 2)))) (.one (.int .i64)) (fun x13 w =>
          J8 (decide (x12 < (IntKind.wrap .i64 (2 * x13)))) w) w) w)) fun J6 =>
    cond b3
      (J6 true w)
      (semS Try.prog (Instr.loadAt 3 (.pointer (some (x1.add 2)))) (.one (.int .i64)) (fun x14 w =>
        joinS (σ := Bool) (fun b15 w =>
          J6 b15 w) fun J16 =>
        cond (x14 != 32)
          (semS Try.prog (Instr.loadAt 3 (.pointer (some (x1.add 2)))) (.one (.int .i64)) (fun x17 w =>
            J16 (x17 != 64) w) w)
          (J16 false w)) w)) fun J4 =>
  cond (decide (x2 < 1))
    (J4 true w)
    (semS Try.prog (Instr.loadAt 3 (.pointer (some (x1.add 0)))) (.one (.int .i64)) (fun x18 w =>
      J4 (decide (x18 > 1099511627776)) w) w)) w) w
theorem f29_ok {p0_0 : Int} {p0_1 : Int} {p0_2 : Int} {K : Bool → World → Prop} {w : World} (h : f29 p0_0 p0_1 p0_2 K w) : callS Try.prog 29 #[(.agg #[(.int .i64 p0_0), (.int .i64 p0_1), (.int .i64 p0_2)])] [(.one .bool)] K w :=
  calls_of_fn (args := [(.agg #[(.int .i64 p0_0), (.int .i64 p0_1), (.int .i64 p0_2)])]) Try.f29 [] [] [] (.two .nil (.two .nil (.two (.two .nil (.one (.loop [(3, (.int .i64))] .nil))) .nil))) (by kernel_rfl) (by kernel_rfl)
    (Eq.mp (by kernel_rfl : f29 p0_0 p0_1 p0_2 K w = evFn Try.prog Try.f29 [] [] [] (.two .nil (.two .nil (.two (.two .nil (.one (.loop [(3, (.int .i64))] .nil))) .nil))) [(.agg #[(.int .i64 p0_0), (.int .i64 p0_1), (.int .i64 p0_2)])] [(.one .bool)] K w) h)

def f12_t1 (K : Bool → World → Prop) (x1 : Addr) (z31 : Addr) (b13 : Bool) (w : World) : Prop :=
  joinS (σ := Bool) (fun b32 w =>
    joinS (σ := Bool) (fun b34 w =>
      joinS (σ := Bool) (fun b36 w =>
        joinS (σ := Bool) (fun b38 w =>
          joinS (σ := Bool) (fun b40 w =>
            joinS (σ := Bool) (fun b42 w =>
              K b42 w) fun J43 =>
            cond b40
              (semS Try.prog (Instr.loadAt 3 (.pointer (some (x1.add 4)))) (.one (.int .i64)) (fun x44 w =>
                J43 (decide (x44 ≤ 1099511627776)) w) w)
              (J43 false w)) fun J41 =>
          cond b38
            (semS Try.prog (Instr.loadAt 3 (.pointer (some (x1.add 4)))) (.one (.int .i64)) (fun x45 w =>
              semS Try.prog (Instr.loadAt 3 (.pointer (some (x1.add 2)))) (.one (.int .i64)) (fun x46 w =>
              J41 (decide (x45 ≥ x46)) w) w) w)
            (J41 false w)) fun J39 =>
        cond b36
          (semS Try.prog (Instr.loadAt 50 (.pointer (some z31))) (.agg [(.int .i64), (.int .i64), (.int .i64)]) (fun x47 x48 x49 w =>
            callS Try.prog 29 #[(.agg #[(.int .i64 x47), (.int .i64 x48), (.int .i64 x49)])] [(.one .bool)] (fun r50 w =>
            J39 r50 w) w) w)
          (J39 false w)) fun J37 =>
      cond b34
        (semS Try.prog (Instr.loadAt 28 (.pointer (some x1))) (.agg [(.int .i64), (.int .i64), (.int .i64), (.int .i64), (.int .i64), (.int .i64), .str, .slc, .slc, .slc, .slc]) (fun x51 x52 x53 x54 x55 x56 x57 x58 x59 x60 x61 w =>
          callS Try.prog 28 #[(.agg #[(.int .i64 x51), (.int .i64 x52), (.int .i64 x53), (.int .i64 x54), (.int .i64 x55), (.int .i64 x56), (.string x57), (.slice x58.a x58.len x58.cap), (.slice x59.a x59.len x59.cap), (.slice x60.a x60.len x60.cap), (.slice x61.a x61.len x61.cap)])] [(.one .bool)] (fun r62 w =>
          J37 r62 w) w) w)
        (J37 false w)) fun J35 =>
    cond b32
      (semS Try.prog (Instr.loadAt 9 (.pointer (some (x1.add 6)))) (.one .str) (fun x63 w =>
        callS Try.prog 26 #[(.string x63)] [(.one .bool)] (fun r64 w =>
        J35 r64 w) w) w)
      (J35 false w)) fun J33 =>
  cond b13
    (semS Try.prog (Instr.loadAt 25 (.pointer (some (x1.add 10)))) (.one .slc) (fun x65 w =>
      J33 ((x65.len : Int) == 0) w) w)
    (J33 false w)

/-- (sallyport/sallyportref12.Descr).Right -/
def f12 (p0_0 : Int) (p0_1 : Int) (p0_2 : Int) (p0_3 : Int) (p0_4 : Int) (p0_5 : Int) (p0_6 : ByteArray) (p0_7 : Sl) (p0_8 : Sl) (p0_9 : Sl) (p0_10 : Sl) (K : Bool → World → Prop) (w : World) : Prop :=
  semS Try.prog (Instr.box 28 (.agg #[(.int .i64 p0_0), (.int .i64 p0_1), (.int .i64 p0_2), (.int .i64 p0_3), (.int .i64 p0_4), (.int .i64 p0_5), (.string p0_6), (.slice p0_7.a p0_7.len p0_7.cap), (.slice p0_8.a p0_8.len p0_8.cap), (.slice p0_9.a p0_9.len p0_9.cap), (.slice p0_10.a p0_10.len p0_10.cap)])) (.one .adr) (fun x1 w =>
  semS Try.prog (Instr.loadAt 3 (.pointer (some (x1.add 1)))) (.one (.int .i64)) (fun x2 w =>
  joinS (σ := Bool) (fun b3 w =>
    joinS (σ := Bool) (fun b5 w =>
      joinS (σ := Bool) (fun b7 w =>
        semS Try.prog (Instr.loadAt 3 (.pointer (some (x1.add 3)))) (.one (.int .i64)) (fun x9 w =>
        joinS (σ := Bool) (fun b10 w =>
          semS Try.prog (Instr.loadAt 3 (.pointer (some (x1.add 5)))) (.one (.int .i64)) (fun x12 w =>
          joinS (σ := Bool) (fun b13 w =>
            semS Try.prog (Instr.loadAt 3 (.pointer (some (x1.add 0)))) (.one (.int .i64)) (fun x15 w =>
            cond (x15 == 0)
              (joinS (σ := Bool) (fun b16 w =>
                joinS (σ := Bool) (fun b18 w =>
                  K b18 w) fun J19 =>
                cond b16
                  (semS Try.prog (Instr.loadAt 25 (.pointer (some (x1.add 10)))) (.one .slc) (fun x20 w =>
                    J19 (decide ((x20.len : Int) ≤ 256)) w) w)
                  (J19 false w)) fun J17 =>
              cond ((b7 && b10) && b13)
                (semS Try.prog (Instr.loadAt 9 (.pointer (some (x1.add 6)))) (.one .str) (fun x21 w =>
                  callS Try.prog 26 #[(.string x21)] [(.one .bool)] (fun r22 w =>
                  J17 r22 w) w) w)
                (J17 false w))
              (semS Try.prog (Instr.loadAt 3 (.pointer (some (x1.add 0)))) (.one (.int .i64)) (fun x23 w =>
              cond (x23 == 1)
                (drawS w fun C w =>
                semQ Try.prog C (Instr.loadAt 3 (.pointer (some (x1.add 2)))) (.one (.int .i64)) (fun x24 =>
                semQ Try.prog C (Instr.loadAt 3 (.pointer (some (x1.add 3)))) (.one (.int .i64)) (fun x25 =>
                semQ Try.prog C (Instr.loadAt 3 (.pointer (some (x1.add 1)))) (.one (.int .i64)) (fun x26 =>
                (callS Try.prog 27 #[(.int .i64 x26)] [(.one (.int .i64))] (fun r27 w =>
                moreS C w (fun C =>
                semS Try.prog (Instr.alloc 50 true (.tuple #[])) (.one .adr) (fun x28 w =>
                  moreS C w (fun C =>
                  semU Try.prog (Instr.storeAt 50 (.pointer (some x28)) (.agg #[(.int .i64 x24), (.int .i64 x25), (.int .i64 r27)])) (fun w =>
                  f12_t1 K x1 x28 b13 w) w)) w)) w) ∧
                (semS Try.prog (Instr.alloc 50 true (.tuple #[])) (.one .adr) (fun x29 w =>
                moreS C w (fun C =>
                callS Try.prog 27 #[(.int .i64 x26)] [(.one (.int .i64))] (fun r30 w =>
                  moreS C w (fun C =>
                  semU Try.prog (Instr.storeAt 50 (.pointer (some x29)) (.agg #[(.int .i64 x24), (.int .i64 x25), (.int .i64 r30)])) (fun w =>
                  f12_t1 K x1 x29 b13 w) w)) w)) w)))))
                (semS Try.prog (Instr.loadAt 3 (.pointer (some (x1.add 0)))) (.one (.int .i64)) (fun x66 w =>
                cond (x66 == 2)
                  (joinS (σ := Bool) (fun b67 w =>
                    joinS (σ := Bool) (fun b69 w =>
                      joinS (σ := Bool) (fun b71 w =>
                        joinS (σ := Bool) (fun b73 w =>
                          joinS (σ := Bool) (fun b75 w =>
                            K b75 w) fun J76 =>
                          cond b73
                            (semS Try.prog (Instr.loadAt 3 (.pointer (some (x1.add 2)))) (.one (.int .i64)) (fun x77 w =>
                              J76 (decide (x77 ≤ 1099511627776)) w) w)
                            (J76 false w)) fun J74 =>
                        cond b71
                          (semS Try.prog (Instr.loadAt 3 (.pointer (some (x1.add 2)))) (.one (.int .i64)) (fun x78 w =>
                            J74 (decide (x78 ≥ 0)) w) w)
                          (J74 false w)) fun J72 =>
                      cond b69
                        (semS Try.prog (Instr.loadAt 28 (.pointer (some x1))) (.agg [(.int .i64), (.int .i64), (.int .i64), (.int .i64), (.int .i64), (.int .i64), .str, .slc, .slc, .slc, .slc]) (fun x79 x80 x81 x82 x83 x84 x85 x86 x87 x88 x89 w =>
                          callS Try.prog 28 #[(.agg #[(.int .i64 x79), (.int .i64 x80), (.int .i64 x81), (.int .i64 x82), (.int .i64 x83), (.int .i64 x84), (.string x85), (.slice x86.a x86.len x86.cap), (.slice x87.a x87.len x87.cap), (.slice x88.a x88.len x88.cap), (.slice x89.a x89.len x89.cap)])] [(.one .bool)] (fun r90 w =>
                          J72 r90 w) w) w)
                        (J72 false w)) fun J70 =>
                    cond b67
                      (semS Try.prog (Instr.loadAt 9 (.pointer (some (x1.add 6)))) (.one .str) (fun x91 w =>
                        callS Try.prog 26 #[(.string x91)] [(.one .bool)] (fun r92 w =>
                        J70 r92 w) w) w)
                      (J70 false w)) fun J68 =>
                  cond (b10 && b13)
                    (semS Try.prog (Instr.loadAt 25 (.pointer (some (x1.add 10)))) (.one .slc) (fun x93 w =>
                      J68 ((x93.len : Int) == 0) w) w)
                    (J68 false w))
                  (semS Try.prog (Instr.loadAt 3 (.pointer (some (x1.add 0)))) (.one (.int .i64)) (fun x94 w =>
                  cond (x94 == 3)
                    (joinS (σ := Bool) (fun b95 w =>
                      joinS (σ := Bool) (fun b97 w =>
                        K b97 w) fun J98 =>
                      cond b95
                        (semS Try.prog (Instr.loadAt 25 (.pointer (some (x1.add 10)))) (.one .slc) (fun x99 w =>
                          J98 (decide ((x99.len : Int) ≤ 256)) w) w)
                        (J98 false w)) fun J96 =>
                    cond ((b7 && b10) && b13)
                      (semS Try.prog (Instr.loadAt 9 (.pointer (some (x1.add 6)))) (.one .str) (fun x100 w =>
                        J96 (x100.toList == (ByteArray.mk #[]).toList) w) w)
                      (J96 false w))
                    (semS Try.prog (Instr.loadAt 3 (.pointer (some (x1.add 0)))) (.one (.int .i64)) (fun x101 w =>
                    cond (x101 == 4)
                      (joinS (σ := Bool) (fun b102 w =>
                        joinS (σ := Bool) (fun b104 w =>
                          joinS (σ := Bool) (fun b106 w =>
                            joinS (σ := Bool) (fun b108 w =>
                              joinS (σ := Bool) (fun b110 w =>
                                joinS (σ := Bool) (fun b112 w =>
                                  K b112 w) fun J113 =>
                                cond b110
                                  (semS Try.prog (Instr.loadAt 25 (.pointer (some (x1.add 9)))) (.one .slc) (fun x114 w =>
                                    J113 (decide ((x114.len : Int) ≤ 1032)) w) w)
                                  (J113 false w)) fun J111 =>
                              cond b108
                                (semS Try.prog (Instr.loadAt 25 (.pointer (some (x1.add 9)))) (.one .slc) (fun x115 w =>
                                  J111 (decide ((x115.len : Int) ≥ 1)) w) w)
                                (J111 false w)) fun J109 =>
                            cond b106
                              (semS Try.prog (Instr.loadAt 3 (.pointer (some (x1.add 5)))) (.one (.int .i64)) (fun x116 w =>
                                J109 (decide (x116 ≤ 31)) w) w)
                              (J109 false w)) fun J107 =>
                          cond b104
                            (semS Try.prog (Instr.loadAt 3 (.pointer (some (x1.add 5)))) (.one (.int .i64)) (fun x117 w =>
                              J107 (decide (x117 ≥ 1)) w) w)
                            (J107 false w)) fun J105 =>
                        cond b102
                          (semS Try.prog (Instr.loadAt 9 (.pointer (some (x1.add 6)))) (.one .str) (fun x118 w =>
                            callS Try.prog 26 #[(.string x118)] [(.one .bool)] (fun r119 w =>
                            J105 r119 w) w) w)
                          (J105 false w)) fun J103 =>
                      cond (b7 && b10)
                        (semS Try.prog (Instr.loadAt 25 (.pointer (some (x1.add 10)))) (.one .slc) (fun x120 w =>
                          J103 ((x120.len : Int) == 0) w) w)
                        (J103 false w))
                      (K false w)) w)) w)) w)) w)) w) fun J14 =>
          cond (x12 == 0)
            (semS Try.prog (Instr.loadAt 25 (.pointer (some (x1.add 9)))) (.one .slc) (fun x121 w =>
              J14 ((x121.len : Int) == 0) w) w)
            (J14 false w)) w) fun J11 =>
        cond (x9 == 0)
          (semS Try.prog (Instr.loadAt 3 (.pointer (some (x1.add 4)))) (.one (.int .i64)) (fun x122 w =>
            J11 (x122 == 0) w) w)
          (J11 false w)) w) fun J8 =>
      cond b5
        (semS Try.prog (Instr.loadAt 25 (.pointer (some (x1.add 8)))) (.one .slc) (fun x123 w =>
          J8 ((x123.len : Int) == 0) w) w)
        (J8 false w)) fun J6 =>
    cond b3
      (semS Try.prog (Instr.loadAt 25 (.pointer (some (x1.add 7)))) (.one .slc) (fun x124 w =>
        J6 ((x124.len : Int) == 0) w) w)
      (J6 false w)) fun J4 =>
  cond (x2 == 0)
    (semS Try.prog (Instr.loadAt 3 (.pointer (some (x1.add 2)))) (.one (.int .i64)) (fun x125 w =>
      J4 (x125 == 0) w) w)
    (J4 false w)) w) w
theorem f12_ok {p0_0 : Int} {p0_1 : Int} {p0_2 : Int} {p0_3 : Int} {p0_4 : Int} {p0_5 : Int} {p0_6 : ByteArray} {p0_7 : Sl} {p0_8 : Sl} {p0_9 : Sl} {p0_10 : Sl} {K : Bool → World → Prop} {w : World} (h : f12 p0_0 p0_1 p0_2 p0_3 p0_4 p0_5 p0_6 p0_7 p0_8 p0_9 p0_10 K w) : callS Try.prog 12 #[(.agg #[(.int .i64 p0_0), (.int .i64 p0_1), (.int .i64 p0_2), (.int .i64 p0_3), (.int .i64 p0_4), (.int .i64 p0_5), (.string p0_6), (.slice p0_7.a p0_7.len p0_7.cap), (.slice p0_8.a p0_8.len p0_8.cap), (.slice p0_9.a p0_9.len p0_9.cap), (.slice p0_10.a p0_10.len p0_10.cap)])] [(.one .bool)] K w :=
  calls_of_fn (args := [(.agg #[(.int .i64 p0_0), (.int .i64 p0_1), (.int .i64 p0_2), (.int .i64 p0_3), (.int .i64 p0_4), (.int .i64 p0_5), (.string p0_6), (.slice p0_7.a p0_7.len p0_7.cap), (.slice p0_8.a p0_8.len p0_8.cap), (.slice p0_9.a p0_9.len p0_9.cap), (.slice p0_10.a p0_10.len p0_10.cap)])]) Try.f12 [] [] [] (.two .nil (.two .nil (.two .nil (.two .nil (.two .nil (.two (.two .nil (.two (.two (.draw [0, 1, 0, 4, 0, 16, 48, 127, 0, 511]) .nil) .nil)) .nil)))))) (by kernel_rfl) (by kernel_rfl)
    (Eq.mp (by kernel_rfl : f12 p0_0 p0_1 p0_2 p0_3 p0_4 p0_5 p0_6 p0_7 p0_8 p0_9 p0_10 K w = evFn Try.prog Try.f12 [] [] [] (.two .nil (.two .nil (.two .nil (.two .nil (.two .nil (.two (.two .nil (.two (.two (.draw [0, 1, 0, 4, 0, 16, 48, 127, 0, 511]) .nil) .nil)) .nil)))))) [(.agg #[(.int .i64 p0_0), (.int .i64 p0_1), (.int .i64 p0_2), (.int .i64 p0_3), (.int .i64 p0_4), (.int .i64 p0_5), (.string p0_6), (.slice p0_7.a p0_7.len p0_7.cap), (.slice p0_8.a p0_8.len p0_8.cap), (.slice p0_9.a p0_9.len p0_9.cap), (.slice p0_10.a p0_10.len p0_10.cap)])] [(.one .bool)] K w) h)

/-- sallyport/sallyportref12.twice -/
def f36 (p0 : Sl) (p1_0 : Int) (p1_1 : Int) (p1_2 : Int) (p1_3 : Int) (p1_4 : Int) (p1_5 : Int) (p1_6 : ByteArray) (p1_7 : Sl) (p1_8 : Sl) (p1_9 : Sl) (p1_10 : Sl) (K : Bool → World → Prop) (w : World) : Prop :=
  semS Try.prog (Instr.box 28 (.agg #[(.int .i64 p1_0), (.int .i64 p1_1), (.int .i64 p1_2), (.int .i64 p1_3), (.int .i64 p1_4), (.int .i64 p1_5), (.string p1_6), (.slice p1_7.a p1_7.len p1_7.cap), (.slice p1_8.a p1_8.len p1_8.cap), (.slice p1_9.a p1_9.len p1_9.cap), (.slice p1_10.a p1_10.len p1_10.cap)])) (.one .adr) (fun x1 w =>
  loopS (σ := Int) (fun x2 w again3 =>
    cond (decide (x2 < (p0.len : Int)))
      (drawS w fun C w =>
      semQ Try.prog C (Instr.loadAt 3 (.pointer (some (x1.add 0)))) (.one (.int .i64)) (fun x4 =>
      cond (x4 != 3)
        (semQ Try.prog C (Instr.indexAt 35 (.slice p0.a p0.len p0.cap) (.int .i64 x2)) (.one .adr) (fun x5 =>
        semQ Try.prog C (Instr.loadAt 3 (.pointer (some (x5.add 0)))) (.one (.int .i64)) (fun x6 =>
        semQ Try.prog C (Instr.loadAt 3 (.pointer (some (x1.add 0)))) (.one (.int .i64)) (fun x7 =>
        cond (x6 == x7)
          (semQ Try.prog C (Instr.indexAt 35 (.slice p0.a p0.len p0.cap) (.int .i64 x2)) (.one .adr) (fun x8 =>
          semQ Try.prog C (Instr.loadAt 9 (.pointer (some (x8.add 6)))) (.one .str) (fun x9 =>
          semQ Try.prog C (Instr.loadAt 9 (.pointer (some (x1.add 6)))) (.one .str) (fun x10 =>
          cond (x9.toList == x10.toList)
    (K true w)
    (again3 (IntKind.wrap .i64 (x2 + 1)) w)))))
          (again3 (IntKind.wrap .i64 (x2 + 1)) w)))))
        (again3 (IntKind.wrap .i64 (x2 + 1)) w)))
      (K false w)) 0 w) w
theorem f36_ok {p0 : Sl} {p1_0 : Int} {p1_1 : Int} {p1_2 : Int} {p1_3 : Int} {p1_4 : Int} {p1_5 : Int} {p1_6 : ByteArray} {p1_7 : Sl} {p1_8 : Sl} {p1_9 : Sl} {p1_10 : Sl} {K : Bool → World → Prop} {w : World} (h : f36 p0 p1_0 p1_1 p1_2 p1_3 p1_4 p1_5 p1_6 p1_7 p1_8 p1_9 p1_10 K w) : callS Try.prog 36 #[(.slice p0.a p0.len p0.cap), (.agg #[(.int .i64 p1_0), (.int .i64 p1_1), (.int .i64 p1_2), (.int .i64 p1_3), (.int .i64 p1_4), (.int .i64 p1_5), (.string p1_6), (.slice p1_7.a p1_7.len p1_7.cap), (.slice p1_8.a p1_8.len p1_8.cap), (.slice p1_9.a p1_9.len p1_9.cap), (.slice p1_10.a p1_10.len p1_10.cap)])] [(.one .bool)] K w :=
  calls_of_fn (args := [(.slice p0.a p0.len p0.cap), (.agg #[(.int .i64 p1_0), (.int .i64 p1_1), (.int .i64 p1_2), (.int .i64 p1_3), (.int .i64 p1_4), (.int .i64 p1_5), (.string p1_6), (.slice p1_7.a p1_7.len p1_7.cap), (.slice p1_8.a p1_8.len p1_8.cap), (.slice p1_9.a p1_9.len p1_9.cap), (.slice p1_10.a p1_10.len p1_10.cap)])]) Try.f36 [] [] [] (.two .nil (.two (.two .nil (.one (.loop [(5, (.int .i64))] (.two .nil (.two (.one (.two (.draw [0, 1, 3, 7, 15, 15, 63, 127, 255, 15, 527, 2047, 4095, 8191, 16383, 16383, 65535, 131071, 262143, 16383, 540671, 2097151, 4194303]) .nil)) .nil))))) .nil)) (by kernel_rfl) (by kernel_rfl)
    (Eq.mp (by kernel_rfl : f36 p0 p1_0 p1_1 p1_2 p1_3 p1_4 p1_5 p1_6 p1_7 p1_8 p1_9 p1_10 K w = evFn Try.prog Try.f36 [] [] [] (.two .nil (.two (.two .nil (.one (.loop [(5, (.int .i64))] (.two .nil (.two (.one (.two (.draw [0, 1, 3, 7, 15, 15, 63, 127, 255, 15, 527, 2047, 4095, 8191, 16383, 16383, 65535, 131071, 262143, 16383, 540671, 2097151, 4194303]) .nil)) .nil))))) .nil)) [(.slice p0.a p0.len p0.cap), (.agg #[(.int .i64 p1_0), (.int .i64 p1_1), (.int .i64 p1_2), (.int .i64 p1_3), (.int .i64 p1_4), (.int .i64 p1_5), (.string p1_6), (.slice p1_7.a p1_7.len p1_7.cap), (.slice p1_8.a p1_8.len p1_8.cap), (.slice p1_9.a p1_9.len p1_9.cap), (.slice p1_10.a p1_10.len p1_10.cap)])] [(.one .bool)] K w) h)

/-- sallyport/sallyportref12.Number -/
def f50 (p0 : Int) (p1 : Int) (K : Sl → World → Prop) (w : World) : Prop :=
  semS Try.prog (Instr.makeSlice 25 (.int .i64 p1) (.int .i64 p1)) (.one .slc) (fun x1 w =>
  loopS (σ := Int × Int) (fun s2 w again3 =>
    cond (decide (s2.2 ≥ 0))
      (semS Try.prog (Instr.indexAt 25 (.slice x1.a x1.len x1.cap) (.int .i64 s2.2)) (.one .adr) (fun x4 w =>
      semU Try.prog (Instr.storeAt 5 (.pointer (some x4)) (.int .u8 (IntKind.wrap .u8 (Int.tmod s2.1 256)))) (fun w =>
      again3 (IntKind.wrap .i64 (Int.tdiv s2.1 256), IntKind.wrap .i64 (s2.2 - 1)) w) w) w)
      (K x1 w)) (p0, IntKind.wrap .i64 (p1 - 1)) w) w
theorem f50_ok {p0 : Int} {p1 : Int} {K : Sl → World → Prop} {w : World} (h : f50 p0 p1 K w) : callS Try.prog 50 #[(.int .i64 p0), (.int .i64 p1)] [(.one .slc)] K w :=
  calls_of_fn (args := [(.int .i64 p0), (.int .i64 p1)]) Try.f50 [] [] [] (.two .nil (.two .nil (.two (.two .nil (.one (.loop [(0, (.int .i64)), (6, (.int .i64))] .nil))) .nil))) (by kernel_rfl) (by kernel_rfl)
    (Eq.mp (by kernel_rfl : f50 p0 p1 K w = evFn Try.prog Try.f50 [] [] [] (.two .nil (.two .nil (.two (.two .nil (.one (.loop [(0, (.int .i64)), (6, (.int .i64))] .nil))) .nil))) [(.int .i64 p0), (.int .i64 p1)] [(.one .slc)] K w) h)

/-- sallyport/sallyportref12.bytes -/
def f37 (p0_0 : Int) (p0_1 : Int) (p0_2 : Int) (p0_3 : Int) (p0_4 : Int) (p0_5 : Int) (p0_6 : ByteArray) (p0_7 : Sl) (p0_8 : Sl) (p0_9 : Sl) (p0_10 : Sl) (K : Sl → World → Prop) (w : World) : Prop :=
  semS Try.prog (Instr.box 28 (.agg #[(.int .i64 p0_0), (.int .i64 p0_1), (.int .i64 p0_2), (.int .i64 p0_3), (.int .i64 p0_4), (.int .i64 p0_5), (.string p0_6), (.slice p0_7.a p0_7.len p0_7.cap), (.slice p0_8.a p0_8.len p0_8.cap), (.slice p0_9.a p0_9.len p0_9.cap), (.slice p0_10.a p0_10.len p0_10.cap)])) (.one .adr) (fun x1 w =>
  semS Try.prog (Instr.loadAt 3 (.pointer (some (x1.add 1)))) (.one (.int .i64)) (fun x2 w =>
  callS Try.prog 50 #[(.int .i64 x2), (.int .i64 4)] [(.one .slc)] (fun r3 w =>
  semS Try.prog (Builtin.append_ #[25, 25] 25 #[(.slice none 0 0), (.slice r3.a r3.len r3.cap)]) (.one .slc) (fun r4 w =>
  semS Try.prog (Instr.loadAt 3 (.pointer (some (x1.add 2)))) (.one (.int .i64)) (fun x5 w =>
  callS Try.prog 50 #[(.int .i64 x5), (.int .i64 8)] [(.one .slc)] (fun r6 w =>
  semS Try.prog (Builtin.append_ #[25, 25] 25 #[(.slice r4.a r4.len r4.cap), (.slice r6.a r6.len r6.cap)]) (.one .slc) (fun r7 w =>
  semS Try.prog (Instr.loadAt 3 (.pointer (some (x1.add 3)))) (.one (.int .i64)) (fun x8 w =>
  callS Try.prog 50 #[(.int .i64 x8), (.int .i64 4)] [(.one .slc)] (fun r9 w =>
  semS Try.prog (Builtin.append_ #[25, 25] 25 #[(.slice r7.a r7.len r7.cap), (.slice r9.a r9.len r9.cap)]) (.one .slc) (fun r10 w =>
  semS Try.prog (Instr.loadAt 3 (.pointer (some (x1.add 4)))) (.one (.int .i64)) (fun x11 w =>
  callS Try.prog 50 #[(.int .i64 x11), (.int .i64 8)] [(.one .slc)] (fun r12 w =>
  semS Try.prog (Builtin.append_ #[25, 25] 25 #[(.slice r10.a r10.len r10.cap), (.slice r12.a r12.len r12.cap)]) (.one .slc) (fun r13 w =>
  semS Try.prog (Instr.loadAt 3 (.pointer (some (x1.add 5)))) (.one (.int .i64)) (fun x14 w =>
  callS Try.prog 50 #[(.int .i64 x14), (.int .i64 4)] [(.one .slc)] (fun r15 w =>
  semS Try.prog (Builtin.append_ #[25, 25] 25 #[(.slice r13.a r13.len r13.cap), (.slice r15.a r15.len r15.cap)]) (.one .slc) (fun r16 w =>
  semS Try.prog (Instr.loadAt 9 (.pointer (some (x1.add 6)))) (.one .str) (fun x17 w =>
  semS Try.prog (convert 9 25 (.string x17)) (.one .slc) (fun x18 w =>
  semS Try.prog (Instr.loadAt 25 (.pointer (some (x1.add 7)))) (.one .slc) (fun x19 w =>
  semS Try.prog (Instr.loadAt 25 (.pointer (some (x1.add 8)))) (.one .slc) (fun x20 w =>
  semS Try.prog (Instr.loadAt 25 (.pointer (some (x1.add 9)))) (.one .slc) (fun x21 w =>
  semS Try.prog (Instr.loadAt 25 (.pointer (some (x1.add 10)))) (.one .slc) (fun x22 w =>
  semS Try.prog (Instr.buildSlice 72 5 #[(0, (.slice x18.a x18.len x18.cap)), (1, (.slice x19.a x19.len x19.cap)), (2, (.slice x20.a x20.len x20.cap)), (3, (.slice x21.a x21.len x21.cap)), (4, (.slice x22.a x22.len x22.cap))]) (.one .slc) (fun x23 w =>
  loopS (σ := Sl × Int) (fun s24 w again25 =>
    cond (decide (s24.2 < 5))
      (semS Try.prog (Instr.indexAt 72 (.slice x23.a x23.len x23.cap) (.int .i64 s24.2)) (.one .adr) (fun x26 w =>
      semS Try.prog (Instr.loadAt 25 (.pointer (some x26))) (.one .slc) (fun x27 w =>
      callS Try.prog 50 #[(.int .i64 (x27.len : Int)), (.int .i64 4)] [(.one .slc)] (fun r28 w =>
      semS Try.prog (Builtin.append_ #[25, 25] 25 #[(.slice s24.1.a s24.1.len s24.1.cap), (.slice r28.a r28.len r28.cap)]) (.one .slc) (fun r29 w =>
      again25 (r29, IntKind.wrap .i64 (s24.2 + 1)) w) w) w) w) w)
      (loopS (σ := Sl × Int) (fun s30 w again31 =>
        cond (decide (s30.2 < 5))
          (semS Try.prog (Instr.indexAt 72 (.slice x23.a x23.len x23.cap) (.int .i64 s30.2)) (.one .adr) (fun x32 w =>
          semS Try.prog (Instr.loadAt 25 (.pointer (some x32))) (.one .slc) (fun x33 w =>
          semS Try.prog (Builtin.append_ #[25, 25] 25 #[(.slice s30.1.a s30.1.len s30.1.cap), (.slice x33.a x33.len x33.cap)]) (.one .slc) (fun r34 w =>
          again31 (r34, IntKind.wrap .i64 (s30.2 + 1)) w) w) w) w)
          (loopS (σ := Sl) (fun x35 w again36 =>
            cond ((Int.tmod (x35.len : Int) 8) != 0)
              (semS Try.prog (Instr.buildSlice 25 1 #[(0, (.int .u8 0))]) (.one .slc) (fun x37 w =>
              semS Try.prog (Builtin.append_ #[25, 25] 25 #[(.slice x35.a x35.len x35.cap), (.slice x37.a x37.len x37.cap)]) (.one .slc) (fun r38 w =>
              again36 r38 w) w) w)
              (semS Try.prog (Instr.loadAt 3 (.pointer (some (x1.add 0)))) (.one (.int .i64)) (fun x39 w =>
              callS Try.prog 50 #[(.int .i64 x39), (.int .i64 8)] [(.one .slc)] (fun r40 w =>
              callS Try.prog 50 #[(.int .i64 (x35.len : Int)), (.int .i64 8)] [(.one .slc)] (fun r41 w =>
              semS Try.prog (Builtin.append_ #[25, 25] 25 #[(.slice r40.a r40.len r40.cap), (.slice r41.a r41.len r41.cap)]) (.one .slc) (fun r42 w =>
              semS Try.prog (Builtin.append_ #[25, 25] 25 #[(.slice r42.a r42.len r42.cap), (.slice x35.a x35.len x35.cap)]) (.one .slc) (fun r43 w =>
              K r43 w) w) w) w) w) w)) s30.1 w)) (s24.1, 0) w)) (r16, 0) w) w) w) w) w) w) w) w) w) w) w) w) w) w) w) w) w) w) w) w) w) w) w) w
theorem f37_ok {p0_0 : Int} {p0_1 : Int} {p0_2 : Int} {p0_3 : Int} {p0_4 : Int} {p0_5 : Int} {p0_6 : ByteArray} {p0_7 : Sl} {p0_8 : Sl} {p0_9 : Sl} {p0_10 : Sl} {K : Sl → World → Prop} {w : World} (h : f37 p0_0 p0_1 p0_2 p0_3 p0_4 p0_5 p0_6 p0_7 p0_8 p0_9 p0_10 K w) : callS Try.prog 37 #[(.agg #[(.int .i64 p0_0), (.int .i64 p0_1), (.int .i64 p0_2), (.int .i64 p0_3), (.int .i64 p0_4), (.int .i64 p0_5), (.string p0_6), (.slice p0_7.a p0_7.len p0_7.cap), (.slice p0_8.a p0_8.len p0_8.cap), (.slice p0_9.a p0_9.len p0_9.cap), (.slice p0_10.a p0_10.len p0_10.cap)])] [(.one .slc)] K w :=
  calls_of_fn (args := [(.agg #[(.int .i64 p0_0), (.int .i64 p0_1), (.int .i64 p0_2), (.int .i64 p0_3), (.int .i64 p0_4), (.int .i64 p0_5), (.string p0_6), (.slice p0_7.a p0_7.len p0_7.cap), (.slice p0_8.a p0_8.len p0_8.cap), (.slice p0_9.a p0_9.len p0_9.cap), (.slice p0_10.a p0_10.len p0_10.cap)])]) Try.f37 [] [] [] (.two .nil (.two .nil (.two .nil (.two .nil (.two .nil (.two .nil (.two .nil (.two .nil (.two (.two .nil (.one (.loop [(3, .slc), (5, (.int .i64))] .nil))) (.two (.two .nil (.one (.loop [(3, .slc), (6, (.int .i64))] .nil))) (.two (.one (.loop [(3, .slc)] .nil)) .nil))))))))))) (by kernel_rfl) (by kernel_rfl)
    (Eq.mp (by kernel_rfl : f37 p0_0 p0_1 p0_2 p0_3 p0_4 p0_5 p0_6 p0_7 p0_8 p0_9 p0_10 K w = evFn Try.prog Try.f37 [] [] [] (.two .nil (.two .nil (.two .nil (.two .nil (.two .nil (.two .nil (.two .nil (.two .nil (.two (.two .nil (.one (.loop [(3, .slc), (5, (.int .i64))] .nil))) (.two (.two .nil (.one (.loop [(3, .slc), (6, (.int .i64))] .nil))) (.two (.one (.loop [(3, .slc)] .nil)) .nil))))))))))) [(.agg #[(.int .i64 p0_0), (.int .i64 p0_1), (.int .i64 p0_2), (.int .i64 p0_3), (.int .i64 p0_4), (.int .i64 p0_5), (.string p0_6), (.slice p0_7.a p0_7.len p0_7.cap), (.slice p0_8.a p0_8.len p0_8.cap), (.slice p0_9.a p0_9.len p0_9.cap), (.slice p0_10.a p0_10.len p0_10.cap)])] [(.one .slc)] K w) h)

/-- sallyport/sallyportref12.Encode -/
def f14 (p0 : Sl) (K : Sl → Int → World → Prop) (w : World) : Prop :=
  cond (decide ((p0.len : Int) > 32))
    (K (⟨none, 0, 0⟩) 11 w)
    (loopS (σ := Int) (fun x1 w again2 =>
      cond (decide (x1 < (p0.len : Int)))
        (semS Try.prog (Instr.indexAt 35 (.slice p0.a p0.len p0.cap) (.int .i64 x1)) (.one .adr) (fun x3 w =>
        semS Try.prog (Instr.loadAt 28 (.pointer (some x3))) (.agg [(.int .i64), (.int .i64), (.int .i64), (.int .i64), (.int .i64), (.int .i64), .str, .slc, .slc, .slc, .slc]) (fun x4 x5 x6 x7 x8 x9 x10 x11 x12 x13 x14 w =>
        callS Try.prog 12 #[(.agg #[(.int .i64 x4), (.int .i64 x5), (.int .i64 x6), (.int .i64 x7), (.int .i64 x8), (.int .i64 x9), (.string x10), (.slice x11.a x11.len x11.cap), (.slice x12.a x12.len x12.cap), (.slice x13.a x13.len x13.cap), (.slice x14.a x14.len x14.cap)])] [(.one .bool)] (fun r15 w =>
        cond (!r15)
          (K (⟨none, 0, 0⟩) 12 w)
          (again2 (IntKind.wrap .i64 (x1 + 1)) w)) w) w) w)
        (loopS (σ := Sl × Int) (fun s16 w again17 =>
          cond (decide (s16.2 < (p0.len : Int)))
            (drawS w fun C w =>
            semQ Try.prog C (Instr.sliceAt 35 (.slice p0.a p0.len p0.cap) none (some (.int .i64 s16.2)) none) (.one .slc) (fun x18 =>
            semQ Try.prog C (Instr.indexAt 35 (.slice p0.a p0.len p0.cap) (.int .i64 s16.2)) (.one .adr) (fun x19 =>
            semQ Try.prog C (Instr.loadAt 28 (.pointer (some x19))) (.agg [(.int .i64), (.int .i64), (.int .i64), (.int .i64), (.int .i64), (.int .i64), .str, .slc, .slc, .slc, .slc]) (fun x20 x21 x22 x23 x24 x25 x26 x27 x28 x29 x30 =>
            callS Try.prog 36 #[(.slice x18.a x18.len x18.cap), (.agg #[(.int .i64 x20), (.int .i64 x21), (.int .i64 x22), (.int .i64 x23), (.int .i64 x24), (.int .i64 x25), (.string x26), (.slice x27.a x27.len x27.cap), (.slice x28.a x28.len x28.cap), (.slice x29.a x29.len x29.cap), (.slice x30.a x30.len x30.cap)])] [(.one .bool)] (fun r31 w =>
            cond r31
              (K (⟨none, 0, 0⟩) 35 w)
              (semS Try.prog (Instr.indexAt 35 (.slice p0.a p0.len p0.cap) (.int .i64 s16.2)) (.one .adr) (fun x32 w =>
              semS Try.prog (Instr.loadAt 28 (.pointer (some x32))) (.agg [(.int .i64), (.int .i64), (.int .i64), (.int .i64), (.int .i64), (.int .i64), .str, .slc, .slc, .slc, .slc]) (fun x33 x34 x35 x36 x37 x38 x39 x40 x41 x42 x43 w =>
              callS Try.prog 37 #[(.agg #[(.int .i64 x33), (.int .i64 x34), (.int .i64 x35), (.int .i64 x36), (.int .i64 x37), (.int .i64 x38), (.string x39), (.slice x40.a x40.len x40.cap), (.slice x41.a x41.len x41.cap), (.slice x42.a x42.len x42.cap), (.slice x43.a x43.len x43.cap)])] [(.one .slc)] (fun r44 w =>
              semS Try.prog (Builtin.append_ #[25, 25] 25 #[(.slice s16.1.a s16.1.len s16.1.cap), (.slice r44.a r44.len r44.cap)]) (.one .slc) (fun r45 w =>
              again17 (r45, IntKind.wrap .i64 (s16.2 + 1)) w) w) w) w) w)) w))))
            (K s16.1 0 w)) (⟨none, 0, 0⟩, 0) w)) 0 w)
theorem f14_ok {p0 : Sl} {K : Sl → Int → World → Prop} {w : World} (h : f14 p0 K w) : callS Try.prog 14 #[(.slice p0.a p0.len p0.cap)] [(.one .slc), (.one (.int .i64))] K w :=
  calls_of_fn (args := [(.slice p0.a p0.len p0.cap)]) Try.f14 [] [] [] (.two .nil (.two .nil (.two (.two .nil (.one (.loop [(4, (.int .i64))] .nil))) (.two .nil (.two (.two .nil (.one (.loop [(5, .slc), (6, (.int .i64))] (.two .nil (.two (.one (.two (.two (.draw [0, 0, 3, 0, 0, 24, 56, 127]) .nil) .nil)) .nil))))) .nil))))) (by kernel_rfl) (by kernel_rfl)
    (Eq.mp (by kernel_rfl : f14 p0 K w = evFn Try.prog Try.f14 [] [] [] (.two .nil (.two .nil (.two (.two .nil (.one (.loop [(4, (.int .i64))] .nil))) (.two .nil (.two (.two .nil (.one (.loop [(5, .slc), (6, (.int .i64))] (.two .nil (.two (.one (.two (.two (.draw [0, 0, 3, 0, 0, 24, 56, 127]) .nil) .nil)) .nil))))) .nil))))) [(.slice p0.a p0.len p0.cap)] [(.one .slc), (.one (.int .i64))] K w) h)

/-- sallyport/sallyportmade.Descrs -/
def f15 (p0 : Sl) (K : Sl → World → Prop) (w : World) : Prop :=
  loopS (σ := Sl × Int) (fun s1 w again2 =>
    cond (decide (s1.2 < (p0.len : Int)))
      (semS Try.prog (Instr.indexAt 22 (.slice p0.a p0.len p0.cap) (.int .i64 s1.2)) (.one .adr) (fun x3 w =>
      semS Try.prog (Instr.loadAt 27 (.pointer (some x3))) (.agg [(.int .i64), (.int .i64), (.int .i64), (.int .i64), (.int .i64), (.int .i64), .str, .slc, .slc, .slc, .slc]) (fun x4 x5 x6 x7 x8 x9 x10 x11 x12 x13 x14 w =>
      semS Try.prog (Instr.alloc 27 true (.tuple #[])) (.one .adr) (fun x15 w =>
      semU Try.prog (Instr.storeAt 27 (.pointer (some x15)) (.agg #[(.int .i64 x4), (.int .i64 x5), (.int .i64 x6), (.int .i64 x7), (.int .i64 x8), (.int .i64 x9), (.string x10), (.slice x11.a x11.len x11.cap), (.slice x12.a x12.len x12.cap), (.slice x13.a x13.len x13.cap), (.slice x14.a x14.len x14.cap)])) (fun w =>
      semS Try.prog (Instr.loadAt 27 (.pointer (some x15))) (.agg [(.int .i64), (.int .i64), (.int .i64), (.int .i64), (.int .i64), (.int .i64), .str, .slc, .slc, .slc, .slc]) (fun x16 x17 x18 x19 x20 x21 x22 x23 x24 x25 x26 w =>
      callS Try.prog 11 #[(.agg #[(.int .i64 x16), (.int .i64 x17), (.int .i64 x18), (.int .i64 x19), (.int .i64 x20), (.int .i64 x21), (.string x22), (.slice x23.a x23.len x23.cap), (.slice x24.a x24.len x24.cap), (.slice x25.a x25.len x25.cap), (.slice x26.a x26.len x26.cap)])] [(.agg [(.int .i64), (.int .i64), (.int .i64), (.int .i64), (.int .i64), (.int .i64), .str, .slc, .slc, .slc, .slc])] (fun r27 r28 r29 r30 r31 r32 r33 r34 r35 r36 r37 w =>
      semS Try.prog (Instr.buildSlice 35 1 #[(0, (.agg #[(.int .i64 r27), (.int .i64 r28), (.int .i64 r29), (.int .i64 r30), (.int .i64 r31), (.int .i64 r32), (.string r33), (.slice r34.a r34.len r34.cap), (.slice r35.a r35.len r35.cap), (.slice r36.a r36.len r36.cap), (.slice r37.a r37.len r37.cap)]))]) (.one .slc) (fun x38 w =>
      semS Try.prog (Builtin.append_ #[35, 35] 35 #[(.slice s1.1.a s1.1.len s1.1.cap), (.slice x38.a x38.len x38.cap)]) (.one .slc) (fun r39 w =>
      again2 (r39, IntKind.wrap .i64 (s1.2 + 1)) w) w) w) w) w) w) w) w) w)
      (K s1.1 w)) (⟨none, 0, 0⟩, 0) w
theorem f15_ok {p0 : Sl} {K : Sl → World → Prop} {w : World} (h : f15 p0 K w) : callS Try.prog 15 #[(.slice p0.a p0.len p0.cap)] [(.one .slc)] K w :=
  calls_of_fn (args := [(.slice p0.a p0.len p0.cap)]) Try.f15 [] [] [] (.two .nil (.two .nil (.two (.two .nil (.one (.loop [(3, .slc), (8, (.int .i64))] .nil))) .nil))) (by kernel_rfl) (by kernel_rfl)
    (Eq.mp (by kernel_rfl : f15 p0 K w = evFn Try.prog Try.f15 [] [] [] (.two .nil (.two .nil (.two (.two .nil (.one (.loop [(3, .slc), (8, (.int .i64))] .nil))) .nil))) [(.slice p0.a p0.len p0.cap)] [(.one .slc)] K w) h)

/-- sallyport/sallyportref12.Same -/
def f19 (p0_0 : Int) (p0_1 : Int) (p0_2 : Int) (p0_3 : Int) (p0_4 : Int) (p0_5 : Int) (p0_6 : ByteArray) (p0_7 : Sl) (p0_8 : Sl) (p0_9 : Sl) (p0_10 : Sl) (p1_0 : Int) (p1_1 : Int) (p1_2 : Int) (p1_3 : Int) (p1_4 : Int) (p1_5 : Int) (p1_6 : ByteArray) (p1_7 : Sl) (p1_8 : Sl) (p1_9 : Sl) (p1_10 : Sl) (K : Bool → World → Prop) (w : World) : Prop :=
  semS Try.prog (Instr.box 28 (.agg #[(.int .i64 p0_0), (.int .i64 p0_1), (.int .i64 p0_2), (.int .i64 p0_3), (.int .i64 p0_4), (.int .i64 p0_5), (.string p0_6), (.slice p0_7.a p0_7.len p0_7.cap), (.slice p0_8.a p0_8.len p0_8.cap), (.slice p0_9.a p0_9.len p0_9.cap), (.slice p0_10.a p0_10.len p0_10.cap)])) (.one .adr) (fun x1 w =>
  semS Try.prog (Instr.box 28 (.agg #[(.int .i64 p1_0), (.int .i64 p1_1), (.int .i64 p1_2), (.int .i64 p1_3), (.int .i64 p1_4), (.int .i64 p1_5), (.string p1_6), (.slice p1_7.a p1_7.len p1_7.cap), (.slice p1_8.a p1_8.len p1_8.cap), (.slice p1_9.a p1_9.len p1_9.cap), (.slice p1_10.a p1_10.len p1_10.cap)])) (.one .adr) (fun x2 w =>
  semS Try.prog (Instr.loadAt 3 (.pointer (some (x1.add 0)))) (.one (.int .i64)) (fun x3 w =>
  semS Try.prog (Instr.loadAt 3 (.pointer (some (x2.add 0)))) (.one (.int .i64)) (fun x4 w =>
  joinS (σ := Bool) (fun b5 w =>
    joinS (σ := Bool) (fun b7 w =>
      joinS (σ := Bool) (fun b9 w =>
        joinS (σ := Bool) (fun b11 w =>
          joinS (σ := Bool) (fun b13 w =>
            joinS (σ := Bool) (fun b15 w =>
              cond b15
                (K false w)
                (semS Try.prog (Instr.loadAt 25 (.pointer (some (x1.add 7)))) (.one .slc) (fun x17 w =>
                semS Try.prog (convert 25 9 (.slice x17.a x17.len x17.cap)) (.one .str) (fun x18 w =>
                semS Try.prog (Instr.loadAt 25 (.pointer (some (x2.add 7)))) (.one .slc) (fun x19 w =>
                semS Try.prog (convert 25 9 (.slice x19.a x19.len x19.cap)) (.one .str) (fun x20 w =>
                joinS (σ := Bool) (fun b21 w =>
                  joinS (σ := Bool) (fun b23 w =>
                    joinS (σ := Bool) (fun b25 w =>
                      K b25 w) fun J26 =>
                    cond b23
                      (semS Try.prog (Instr.loadAt 25 (.pointer (some (x1.add 10)))) (.one .slc) (fun x27 w =>
                        semS Try.prog (convert 25 9 (.slice x27.a x27.len x27.cap)) (.one .str) (fun x28 w =>
                        semS Try.prog (Instr.loadAt 25 (.pointer (some (x2.add 10)))) (.one .slc) (fun x29 w =>
                        semS Try.prog (convert 25 9 (.slice x29.a x29.len x29.cap)) (.one .str) (fun x30 w =>
                        J26 (x28.toList == x30.toList) w) w) w) w) w)
                      (J26 false w)) fun J24 =>
                  cond b21
                    (semS Try.prog (Instr.loadAt 25 (.pointer (some (x1.add 9)))) (.one .slc) (fun x31 w =>
                      semS Try.prog (convert 25 9 (.slice x31.a x31.len x31.cap)) (.one .str) (fun x32 w =>
                      semS Try.prog (Instr.loadAt 25 (.pointer (some (x2.add 9)))) (.one .slc) (fun x33 w =>
                      semS Try.prog (convert 25 9 (.slice x33.a x33.len x33.cap)) (.one .str) (fun x34 w =>
                      J24 (x32.toList == x34.toList) w) w) w) w) w)
                    (J24 false w)) fun J22 =>
                cond (x18.toList == x20.toList)
                  (semS Try.prog (Instr.loadAt 25 (.pointer (some (x1.add 8)))) (.one .slc) (fun x35 w =>
                    semS Try.prog (convert 25 9 (.slice x35.a x35.len x35.cap)) (.one .str) (fun x36 w =>
                    semS Try.prog (Instr.loadAt 25 (.pointer (some (x2.add 8)))) (.one .slc) (fun x37 w =>
                    semS Try.prog (convert 25 9 (.slice x37.a x37.len x37.cap)) (.one .str) (fun x38 w =>
                    J22 (x36.toList == x38.toList) w) w) w) w) w)
                  (J22 false w)) w) w) w) w)) fun J16 =>
            cond b13
              (J16 true w)
              (semS Try.prog (Instr.loadAt 9 (.pointer (some (x1.add 6)))) (.one .str) (fun x39 w =>
                semS Try.prog (Instr.loadAt 9 (.pointer (some (x2.add 6)))) (.one .str) (fun x40 w =>
                J16 (!(x39.toList == x40.toList)) w) w) w)) fun J14 =>
          cond b11
            (J14 true w)
            (semS Try.prog (Instr.loadAt 3 (.pointer (some (x1.add 5)))) (.one (.int .i64)) (fun x41 w =>
              semS Try.prog (Instr.loadAt 3 (.pointer (some (x2.add 5)))) (.one (.int .i64)) (fun x42 w =>
              J14 (x41 != x42) w) w) w)) fun J12 =>
        cond b9
          (J12 true w)
          (semS Try.prog (Instr.loadAt 3 (.pointer (some (x1.add 4)))) (.one (.int .i64)) (fun x43 w =>
            semS Try.prog (Instr.loadAt 3 (.pointer (some (x2.add 4)))) (.one (.int .i64)) (fun x44 w =>
            J12 (x43 != x44) w) w) w)) fun J10 =>
      cond b7
        (J10 true w)
        (semS Try.prog (Instr.loadAt 3 (.pointer (some (x1.add 3)))) (.one (.int .i64)) (fun x45 w =>
          semS Try.prog (Instr.loadAt 3 (.pointer (some (x2.add 3)))) (.one (.int .i64)) (fun x46 w =>
          J10 (x45 != x46) w) w) w)) fun J8 =>
    cond b5
      (J8 true w)
      (semS Try.prog (Instr.loadAt 3 (.pointer (some (x1.add 2)))) (.one (.int .i64)) (fun x47 w =>
        semS Try.prog (Instr.loadAt 3 (.pointer (some (x2.add 2)))) (.one (.int .i64)) (fun x48 w =>
        J8 (x47 != x48) w) w) w)) fun J6 =>
  cond (x3 != x4)
    (J6 true w)
    (semS Try.prog (Instr.loadAt 3 (.pointer (some (x1.add 1)))) (.one (.int .i64)) (fun x49 w =>
      semS Try.prog (Instr.loadAt 3 (.pointer (some (x2.add 1)))) (.one (.int .i64)) (fun x50 w =>
      J6 (x49 != x50) w) w) w)) w) w) w) w
theorem f19_ok {p0_0 : Int} {p0_1 : Int} {p0_2 : Int} {p0_3 : Int} {p0_4 : Int} {p0_5 : Int} {p0_6 : ByteArray} {p0_7 : Sl} {p0_8 : Sl} {p0_9 : Sl} {p0_10 : Sl} {p1_0 : Int} {p1_1 : Int} {p1_2 : Int} {p1_3 : Int} {p1_4 : Int} {p1_5 : Int} {p1_6 : ByteArray} {p1_7 : Sl} {p1_8 : Sl} {p1_9 : Sl} {p1_10 : Sl} {K : Bool → World → Prop} {w : World} (h : f19 p0_0 p0_1 p0_2 p0_3 p0_4 p0_5 p0_6 p0_7 p0_8 p0_9 p0_10 p1_0 p1_1 p1_2 p1_3 p1_4 p1_5 p1_6 p1_7 p1_8 p1_9 p1_10 K w) : callS Try.prog 19 #[(.agg #[(.int .i64 p0_0), (.int .i64 p0_1), (.int .i64 p0_2), (.int .i64 p0_3), (.int .i64 p0_4), (.int .i64 p0_5), (.string p0_6), (.slice p0_7.a p0_7.len p0_7.cap), (.slice p0_8.a p0_8.len p0_8.cap), (.slice p0_9.a p0_9.len p0_9.cap), (.slice p0_10.a p0_10.len p0_10.cap)]), (.agg #[(.int .i64 p1_0), (.int .i64 p1_1), (.int .i64 p1_2), (.int .i64 p1_3), (.int .i64 p1_4), (.int .i64 p1_5), (.string p1_6), (.slice p1_7.a p1_7.len p1_7.cap), (.slice p1_8.a p1_8.len p1_8.cap), (.slice p1_9.a p1_9.len p1_9.cap), (.slice p1_10.a p1_10.len p1_10.cap)])] [(.one .bool)] K w :=
  calls_of_fn (args := [(.agg #[(.int .i64 p0_0), (.int .i64 p0_1), (.int .i64 p0_2), (.int .i64 p0_3), (.int .i64 p0_4), (.int .i64 p0_5), (.string p0_6), (.slice p0_7.a p0_7.len p0_7.cap), (.slice p0_8.a p0_8.len p0_8.cap), (.slice p0_9.a p0_9.len p0_9.cap), (.slice p0_10.a p0_10.len p0_10.cap)]), (.agg #[(.int .i64 p1_0), (.int .i64 p1_1), (.int .i64 p1_2), (.int .i64 p1_3), (.int .i64 p1_4), (.int .i64 p1_5), (.string p1_6), (.slice p1_7.a p1_7.len p1_7.cap), (.slice p1_8.a p1_8.len p1_8.cap), (.slice p1_9.a p1_9.len p1_9.cap), (.slice p1_10.a p1_10.len p1_10.cap)])]) Try.f19 [] [] [] .nil (by kernel_rfl) (by kernel_rfl)
    (Eq.mp (by kernel_rfl : f19 p0_0 p0_1 p0_2 p0_3 p0_4 p0_5 p0_6 p0_7 p0_8 p0_9 p0_10 p1_0 p1_1 p1_2 p1_3 p1_4 p1_5 p1_6 p1_7 p1_8 p1_9 p1_10 K w = evFn Try.prog Try.f19 [] [] [] .nil [(.agg #[(.int .i64 p0_0), (.int .i64 p0_1), (.int .i64 p0_2), (.int .i64 p0_3), (.int .i64 p0_4), (.int .i64 p0_5), (.string p0_6), (.slice p0_7.a p0_7.len p0_7.cap), (.slice p0_8.a p0_8.len p0_8.cap), (.slice p0_9.a p0_9.len p0_9.cap), (.slice p0_10.a p0_10.len p0_10.cap)]), (.agg #[(.int .i64 p1_0), (.int .i64 p1_1), (.int .i64 p1_2), (.int .i64 p1_3), (.int .i64 p1_4), (.int .i64 p1_5), (.string p1_6), (.slice p1_7.a p1_7.len p1_7.cap), (.slice p1_8.a p1_8.len p1_8.cap), (.slice p1_9.a p1_9.len p1_9.cap), (.slice p1_10.a p1_10.len p1_10.cap)])] [(.one .bool)] K w) h)

/-- sallyport/sallyportmade.SameDescrs -/
def f17 (p0 : Sl) (p1 : Sl) (K : Bool → World → Prop) (w : World) : Prop :=
  cond ((p0.len : Int) != (p1.len : Int))
    (K false w)
    (loopS (σ := Int) (fun x1 w again2 =>
      cond (decide (x1 < (p0.len : Int)))
        (semS Try.prog (Instr.indexAt 22 (.slice p0.a p0.len p0.cap) (.int .i64 x1)) (.one .adr) (fun x3 w =>
        semS Try.prog (Instr.loadAt 27 (.pointer (some x3))) (.agg [(.int .i64), (.int .i64), (.int .i64), (.int .i64), (.int .i64), (.int .i64), .str, .slc, .slc, .slc, .slc]) (fun x4 x5 x6 x7 x8 x9 x10 x11 x12 x13 x14 w =>
        semS Try.prog (Instr.alloc 27 true (.tuple #[])) (.one .adr) (fun x15 w =>
        semU Try.prog (Instr.storeAt 27 (.pointer (some x15)) (.agg #[(.int .i64 x4), (.int .i64 x5), (.int .i64 x6), (.int .i64 x7), (.int .i64 x8), (.int .i64 x9), (.string x10), (.slice x11.a x11.len x11.cap), (.slice x12.a x12.len x12.cap), (.slice x13.a x13.len x13.cap), (.slice x14.a x14.len x14.cap)])) (fun w =>
        drawS w fun C w =>
        semQ Try.prog C (Instr.loadAt 27 (.pointer (some x15))) (.agg [(.int .i64), (.int .i64), (.int .i64), (.int .i64), (.int .i64), (.int .i64), .str, .slc, .slc, .slc, .slc]) (fun x16 x17 x18 x19 x20 x21 x22 x23 x24 x25 x26 =>
        semQ Try.prog C (Instr.indexAt 22 (.slice p1.a p1.len p1.cap) (.int .i64 x1)) (.one .adr) (fun x27 =>
        semQ Try.prog C (Instr.loadAt 27 (.pointer (some x27))) (.agg [(.int .i64), (.int .i64), (.int .i64), (.int .i64), (.int .i64), (.int .i64), .str, .slc, .slc, .slc, .slc]) (fun x28 x29 x30 x31 x32 x33 x34 x35 x36 x37 x38 =>
        callS Try.prog 11 #[(.agg #[(.int .i64 x16), (.int .i64 x17), (.int .i64 x18), (.int .i64 x19), (.int .i64 x20), (.int .i64 x21), (.string x22), (.slice x23.a x23.len x23.cap), (.slice x24.a x24.len x24.cap), (.slice x25.a x25.len x25.cap), (.slice x26.a x26.len x26.cap)])] [(.agg [(.int .i64), (.int .i64), (.int .i64), (.int .i64), (.int .i64), (.int .i64), .str, .slc, .slc, .slc, .slc])] (fun r39 r40 r41 r42 r43 r44 r45 r46 r47 r48 r49 w =>
        moreS C w (fun C =>
        callS Try.prog 11 #[(.agg #[(.int .i64 x28), (.int .i64 x29), (.int .i64 x30), (.int .i64 x31), (.int .i64 x32), (.int .i64 x33), (.string x34), (.slice x35.a x35.len x35.cap), (.slice x36.a x36.len x36.cap), (.slice x37.a x37.len x37.cap), (.slice x38.a x38.len x38.cap)])] [(.agg [(.int .i64), (.int .i64), (.int .i64), (.int .i64), (.int .i64), (.int .i64), .str, .slc, .slc, .slc, .slc])] (fun r50 r51 r52 r53 r54 r55 r56 r57 r58 r59 r60 w =>
        callS Try.prog 19 #[(.agg #[(.int .i64 r39), (.int .i64 r40), (.int .i64 r41), (.int .i64 r42), (.int .i64 r43), (.int .i64 r44), (.string r45), (.slice r46.a r46.len r46.cap), (.slice r47.a r47.len r47.cap), (.slice r48.a r48.len r48.cap), (.slice r49.a r49.len r49.cap)]), (.agg #[(.int .i64 r50), (.int .i64 r51), (.int .i64 r52), (.int .i64 r53), (.int .i64 r54), (.int .i64 r55), (.string r56), (.slice r57.a r57.len r57.cap), (.slice r58.a r58.len r58.cap), (.slice r59.a r59.len r59.cap), (.slice r60.a r60.len r60.cap)])] [(.one .bool)] (fun r61 w =>
        cond (!r61)
          (K false w)
          (again2 (IntKind.wrap .i64 (x1 + 1)) w)) w) w)) w)))) w) w) w) w)
        (K true w)) 0 w)
theorem f17_ok {p0 : Sl} {p1 : Sl} {K : Bool → World → Prop} {w : World} (h : f17 p0 p1 K w) : callS Try.prog 17 #[(.slice p0.a p0.len p0.cap), (.slice p1.a p1.len p1.cap)] [(.one .bool)] K w :=
  calls_of_fn (args := [(.slice p0.a p0.len p0.cap), (.slice p1.a p1.len p1.cap)]) Try.f17 [] [] [] (.two .nil (.two .nil (.two (.two .nil (.one (.loop [(14, (.int .i64))] (.two .nil (.two .nil (.two (.one (.two .nil (.two (.draw [0, 1, 0, 0, 12, 28, 63, 127, 255]) .nil))) .nil)))))) .nil))) (by kernel_rfl) (by kernel_rfl)
    (Eq.mp (by kernel_rfl : f17 p0 p1 K w = evFn Try.prog Try.f17 [] [] [] (.two .nil (.two .nil (.two (.two .nil (.one (.loop [(14, (.int .i64))] (.two .nil (.two .nil (.two (.one (.two .nil (.two (.draw [0, 1, 0, 0, 12, 28, 63, 127, 255]) .nil))) .nil)))))) .nil))) [(.slice p0.a p0.len p0.cap), (.slice p1.a p1.len p1.cap)] [(.one .bool)] K w) h)

/-- sallyport/sallyportlaw12.DescrEncodes -/
def f3 (p0 : Sl) (K : Bool → World → Prop) (w : World) : Prop :=
  callS Try.prog 8 #[] [(.one .bool)] (fun r1 w =>
  cond (!r1)
    (K false w)
    (callS Try.prog 9 #[(.slice p0.a p0.len p0.cap)] [(.one .bool)] (fun r2 w =>
    cond (!r2)
      (K true w)
      (loopS (σ := Int) (fun x3 w again4 =>
        cond (decide (x3 < (p0.len : Int)))
          (semS Try.prog (Instr.indexAt 22 (.slice p0.a p0.len p0.cap) (.int .i64 x3)) (.one .adr) (fun x5 w =>
          semS Try.prog (Instr.loadAt 27 (.pointer (some x5))) (.agg [(.int .i64), (.int .i64), (.int .i64), (.int .i64), (.int .i64), (.int .i64), .str, .slc, .slc, .slc, .slc]) (fun x6 x7 x8 x9 x10 x11 x12 x13 x14 x15 x16 w =>
          semS Try.prog (Instr.alloc 27 true (.tuple #[])) (.one .adr) (fun x17 w =>
          semU Try.prog (Instr.storeAt 27 (.pointer (some x17)) (.agg #[(.int .i64 x6), (.int .i64 x7), (.int .i64 x8), (.int .i64 x9), (.int .i64 x10), (.int .i64 x11), (.string x12), (.slice x13.a x13.len x13.cap), (.slice x14.a x14.len x14.cap), (.slice x15.a x15.len x15.cap), (.slice x16.a x16.len x16.cap)])) (fun w =>
          drawS w fun C w =>
          semQ Try.prog C (Instr.loadAt 27 (.pointer (some x17))) (.agg [(.int .i64), (.int .i64), (.int .i64), (.int .i64), (.int .i64), (.int .i64), .str, .slc, .slc, .slc, .slc]) (fun x18 x19 x20 x21 x22 x23 x24 x25 x26 x27 x28 =>
          semQ Try.prog C (Instr.loadAt 27 (.pointer (some x17))) (.agg [(.int .i64), (.int .i64), (.int .i64), (.int .i64), (.int .i64), (.int .i64), .str, .slc, .slc, .slc, .slc]) (fun x29 x30 x31 x32 x33 x34 x35 x36 x37 x38 x39 =>
          callS Try.prog 10 #[(.agg #[(.int .i64 x18), (.int .i64 x19), (.int .i64 x20), (.int .i64 x21), (.int .i64 x22), (.int .i64 x23), (.string x24), (.slice x25.a x25.len x25.cap), (.slice x26.a x26.len x26.cap), (.slice x27.a x27.len x27.cap), (.slice x28.a x28.len x28.cap)])] [(.one .bool)] (fun r40 w =>
          moreS C w (fun C =>
          callS Try.prog 11 #[(.agg #[(.int .i64 x29), (.int .i64 x30), (.int .i64 x31), (.int .i64 x32), (.int .i64 x33), (.int .i64 x34), (.string x35), (.slice x36.a x36.len x36.cap), (.slice x37.a x37.len x37.cap), (.slice x38.a x38.len x38.cap), (.slice x39.a x39.len x39.cap)])] [(.agg [(.int .i64), (.int .i64), (.int .i64), (.int .i64), (.int .i64), (.int .i64), .str, .slc, .slc, .slc, .slc])] (fun r41 r42 r43 r44 r45 r46 r47 r48 r49 r50 r51 w =>
          callS Try.prog 12 #[(.agg #[(.int .i64 r41), (.int .i64 r42), (.int .i64 r43), (.int .i64 r44), (.int .i64 r45), (.int .i64 r46), (.string r47), (.slice r48.a r48.len r48.cap), (.slice r49.a r49.len r49.cap), (.slice r50.a r50.len r50.cap), (.slice r51.a r51.len r51.cap)])] [(.one .bool)] (fun r52 w =>
          cond (!(r40 == r52))
            (K false w)
            (again4 (IntKind.wrap .i64 (x3 + 1)) w)) w) w)) w))) w) w) w) w)
          (callS Try.prog 13 #[(.slice p0.a p0.len p0.cap)] [(.one .slc), (.one (.int .i64))] (fun r53 r54 w =>
          callS Try.prog 15 #[(.slice p0.a p0.len p0.cap)] [(.one .slc)] (fun r55 w =>
          callS Try.prog 14 #[(.slice r55.a r55.len r55.cap)] [(.one .slc), (.one (.int .i64))] (fun r56 r57 w =>
          joinS (σ := Bool) (fun b58 w =>
            cond b58
              (K false w)
              (cond (r57 != 0)
                (K true w)
                (callS Try.prog 16 #[(.slice r53.a r53.len r53.cap)] [(.one .slc), (.one (.int .i64))] (fun r60 r61 w =>
                joinS (σ := Bool) (fun b62 w =>
                  K b62 w) fun J63 =>
                cond (r61 == 0)
                  (callS Try.prog 17 #[(.slice p0.a p0.len p0.cap), (.slice r60.a r60.len r60.cap)] [(.one .bool)] (fun r64 w =>
                    J63 r64 w) w)
                  (J63 false w)) w))) fun J59 =>
          cond (r54 != r57)
            (J59 true w)
            (semS Try.prog (convert 25 9 (.slice r53.a r53.len r53.cap)) (.one .str) (fun x65 w =>
              semS Try.prog (convert 25 9 (.slice r56.a r56.len r56.cap)) (.one .str) (fun x66 w =>
              J59 (!(x65.toList == x66.toList)) w) w) w)) w) w) w)) 0 w)) w)) w
theorem f3_ok {p0 : Sl} {K : Bool → World → Prop} {w : World} (h : f3 p0 K w) : callS Try.prog 3 #[(.slice p0.a p0.len p0.cap)] [(.one .bool)] K w :=
  calls_of_fn (args := [(.slice p0.a p0.len p0.cap)]) Try.f3 [] [] [] (.two .nil (.two .nil (.two .nil (.two (.two .nil (.one (.loop [(18, (.int .i64))] (.two .nil (.two .nil (.two (.one (.two .nil (.two (.draw [0, 1, 0, 7, 15, 31]) .nil))) .nil)))))) .nil)))) (by kernel_rfl) (by kernel_rfl)
    (Eq.mp (by kernel_rfl : f3 p0 K w = evFn Try.prog Try.f3 [] [] [] (.two .nil (.two .nil (.two .nil (.two (.two .nil (.one (.loop [(18, (.int .i64))] (.two .nil (.two .nil (.two (.one (.two .nil (.two (.draw [0, 1, 0, 7, 15, 31]) .nil))) .nil)))))) .nil)))) [(.slice p0.a p0.len p0.cap)] [(.one .bool)] K w) h)

/-- sallyport/sallyportref12.Get -/
def f40 (p0 : Sl) (p1 : Int) (p2 : Int) (K : Int → World → Prop) (w : World) : Prop :=
  loopS (σ := Int × Int) (fun s1 w again2 =>
    cond (decide (s1.2 < (IntKind.wrap .i64 (p1 + p2))))
      (cond (decide (s1.1 > 18014398509481984))
        (K (-1) w)
        (semS Try.prog (Instr.indexAt 25 (.slice p0.a p0.len p0.cap) (.int .i64 s1.2)) (.one .adr) (fun x3 w =>
        semS Try.prog (Instr.loadAt 5 (.pointer (some x3))) (.one (.int .u8)) (fun x4 w =>
        again2 (IntKind.wrap .i64 ((IntKind.wrap .i64 (s1.1 * 256)) + (IntKind.wrap .i64 x4)), IntKind.wrap .i64 (s1.2 + 1)) w) w) w))
      (K s1.1 w)) (0, p1) w
theorem f40_ok {p0 : Sl} {p1 : Int} {p2 : Int} {K : Int → World → Prop} {w : World} (h : f40 p0 p1 p2 K w) : callS Try.prog 40 #[(.slice p0.a p0.len p0.cap), (.int .i64 p1), (.int .i64 p2)] [(.one (.int .i64))] K w :=
  calls_of_fn (args := [(.slice p0.a p0.len p0.cap), (.int .i64 p1), (.int .i64 p2)]) Try.f40 [] [] [] (.two .nil (.two .nil (.two (.two .nil (.one (.loop [(7, (.int .i64)), (8, (.int .i64))] .nil))) .nil))) (by kernel_rfl) (by kernel_rfl)
    (Eq.mp (by kernel_rfl : f40 p0 p1 p2 K w = evFn Try.prog Try.f40 [] [] [] (.two .nil (.two .nil (.two (.two .nil (.one (.loop [(7, (.int .i64)), (8, (.int .i64))] .nil))) .nil))) [(.slice p0.a p0.len p0.cap), (.int .i64 p1), (.int .i64 p2)] [(.one (.int .i64))] K w) h)

def f41_t1 (x1 : Addr) (z65 : Bool) (K : Int → Int → Int → Int → Int → Int → ByteArray → Sl → Sl → Sl → Sl → Bool → World → Prop) (w : World) : Prop :=
  ∃ v66, (loadVar 28 x1).run Try.prog w = .ok v66 w ∧ decR [(.agg [(.int .i64), (.int .i64), (.int .i64), (.int .i64), (.int .i64), (.int .i64), .str, .slc, .slc, .slc, .slc]), (.one .bool)] (.tuple #[v66, (.bool z65)]) K fun r => r w

/-- sallyport/sallyportref12.read -/
def f41 (p0 : Int) (p1 : Sl) (K : Int → Int → Int → Int → Int → Int → ByteArray → Sl → Sl → Sl → Sl → Bool → World → Prop) (w : World) : Prop :=
  semS Try.prog (Instr.alloc 28 true (.tuple #[])) (.one .adr) (fun x1 w =>
  cond (decide ((p1.len : Int) < 48))
    (semU Try.prog (Instr.storeAt 28 (.pointer (some x1)) (.agg #[(.int .i64 0), (.int .i64 0), (.int .i64 0), (.int .i64 0), (.int .i64 0), (.int .i64 0), (.string ByteArray.empty), (.slice none 0 0), (.slice none 0 0), (.slice none 0 0), (.slice none 0 0)])) (fun w =>
    ∃ v2, (loadVar 28 x1).run Try.prog w = .ok v2 w ∧ decR [(.agg [(.int .i64), (.int .i64), (.int .i64), (.int .i64), (.int .i64), (.int .i64), .str, .slc, .slc, .slc, .slc]), (.one .bool)] (.tuple #[v2, (.bool false)]) K fun r => r w) w)
    (callS Try.prog 40 #[(.slice p1.a p1.len p1.cap), (.int .i64 0), (.int .i64 4)] [(.one (.int .i64))] (fun r3 w =>
    callS Try.prog 40 #[(.slice p1.a p1.len p1.cap), (.int .i64 4), (.int .i64 8)] [(.one (.int .i64))] (fun r4 w =>
    callS Try.prog 40 #[(.slice p1.a p1.len p1.cap), (.int .i64 12), (.int .i64 4)] [(.one (.int .i64))] (fun r5 w =>
    callS Try.prog 40 #[(.slice p1.a p1.len p1.cap), (.int .i64 16), (.int .i64 8)] [(.one (.int .i64))] (fun r6 w =>
    callS Try.prog 40 #[(.slice p1.a p1.len p1.cap), (.int .i64 24), (.int .i64 4)] [(.one (.int .i64))] (fun r7 w =>
    semS Try.prog (Instr.alloc 28 true (.tuple #[])) (.one .adr) (fun x8 w =>
    semU Try.prog (Instr.storeAt 28 (.pointer (some x8)) (.agg #[(.int .i64 p0), (.int .i64 r3), (.int .i64 r4), (.int .i64 r5), (.int .i64 r6), (.int .i64 r7), (.string ByteArray.empty), (.slice none 0 0), (.slice none 0 0), (.slice none 0 0), (.slice none 0 0)])) (fun w =>
    semS Try.prog (Instr.alloc 83 true (.tuple #[])) (.one .adr) (fun x9 w =>
    loopS (σ := Int × Int) (fun s10 w again11 =>
      cond (decide (s10.2 < 5))
        (callS Try.prog 40 #[(.slice p1.a p1.len p1.cap), (.int .i64 (IntKind.wrap .i64 (28 + (IntKind.wrap .i64 (4 * s10.2))))), (.int .i64 4)] [(.one (.int .i64))] (fun r12 w =>
        cond (decide (r12 > (IntKind.wrap .i64 ((p1.len : Int) - s10.1))))
          (semU Try.prog (Instr.storeAt 28 (.pointer (some x1)) (.agg #[(.int .i64 0), (.int .i64 0), (.int .i64 0), (.int .i64 0), (.int .i64 0), (.int .i64 0), (.string ByteArray.empty), (.slice none 0 0), (.slice none 0 0), (.slice none 0 0), (.slice none 0 0)])) (fun w =>
          ∃ v13, (loadVar 28 x1).run Try.prog w = .ok v13 w ∧ decR [(.agg [(.int .i64), (.int .i64), (.int .i64), (.int .i64), (.int .i64), (.int .i64), .str, .slc, .slc, .slc, .slc]), (.one .bool)] (.tuple #[v13, (.bool false)]) K fun r => r w) w)
          (semS Try.prog (Instr.sliceAt 25 (.slice p1.a p1.len p1.cap) (some (.int .i64 s10.1)) (some (.int .i64 (IntKind.wrap .i64 (s10.1 + r12)))) none) (.one .slc) (fun x14 w =>
          semS Try.prog (Instr.indexAt 83 (.pointer (some x9)) (.int .i64 s10.2)) (.one .adr) (fun x15 w =>
          semU Try.prog (Instr.storeAt 25 (.pointer (some x15)) (.slice x14.a x14.len x14.cap)) (fun w =>
          again11 (IntKind.wrap .i64 (s10.1 + r12), IntKind.wrap .i64 (s10.2 + 1)) w) w) w) w)) w)
        (semS Try.prog (Instr.indexAt 83 (.pointer (some x9)) (.int .i64 0)) (.one .adr) (fun x16 w =>
        semS Try.prog (Instr.loadAt 25 (.pointer (some x16))) (.one .slc) (fun x17 w =>
        semS Try.prog (convert 25 9 (.slice x17.a x17.len x17.cap)) (.one .str) (fun x18 w =>
        semU Try.prog (Instr.storeAt 9 (.pointer (some (x8.add 6))) (.string x18)) (fun w =>
        semS Try.prog (Instr.indexAt 83 (.pointer (some x9)) (.int .i64 1)) (.one .adr) (fun x19 w =>
        semS Try.prog (Instr.loadAt 25 (.pointer (some x19))) (.one .slc) (fun x20 w =>
        semU Try.prog (Instr.storeAt 25 (.pointer (some (x8.add 7))) (.slice x20.a x20.len x20.cap)) (fun w =>
        semS Try.prog (Instr.indexAt 83 (.pointer (some x9)) (.int .i64 2)) (.one .adr) (fun x21 w =>
        semS Try.prog (Instr.loadAt 25 (.pointer (some x21))) (.one .slc) (fun x22 w =>
        semU Try.prog (Instr.storeAt 25 (.pointer (some (x8.add 8))) (.slice x22.a x22.len x22.cap)) (fun w =>
        semS Try.prog (Instr.indexAt 83 (.pointer (some x9)) (.int .i64 3)) (.one .adr) (fun x23 w =>
        semS Try.prog (Instr.loadAt 25 (.pointer (some x23))) (.one .slc) (fun x24 w =>
        semU Try.prog (Instr.storeAt 25 (.pointer (some (x8.add 9))) (.slice x24.a x24.len x24.cap)) (fun w =>
        semS Try.prog (Instr.indexAt 83 (.pointer (some x9)) (.int .i64 4)) (.one .adr) (fun x25 w =>
        semS Try.prog (Instr.loadAt 25 (.pointer (some x25))) (.one .slc) (fun x26 w =>
        semU Try.prog (Instr.storeAt 25 (.pointer (some (x8.add 10))) (.slice x26.a x26.len x26.cap)) (fun w =>
        drawS w fun C w =>
        semQ Try.prog C (Instr.loadAt 28 (.pointer (some x8))) (.agg [(.int .i64), (.int .i64), (.int .i64), (.int .i64), (.int .i64), (.int .i64), .str, .slc, .slc, .slc, .slc]) (fun x27 x28 x29 x30 x31 x32 x33 x34 x35 x36 x37 =>
        semQ Try.prog C (Instr.loadAt 28 (.pointer (some x8))) (.agg [(.int .i64), (.int .i64), (.int .i64), (.int .i64), (.int .i64), (.int .i64), .str, .slc, .slc, .slc, .slc]) (fun x38 x39 x40 x41 x42 x43 x44 x45 x46 x47 x48 =>
        callS Try.prog 12 #[(.agg #[(.int .i64 x38), (.int .i64 x39), (.int .i64 x40), (.int .i64 x41), (.int .i64 x42), (.int .i64 x43), (.string x44), (.slice x45.a x45.len x45.cap), (.slice x46.a x46.len x46.cap), (.slice x47.a x47.len x47.cap), (.slice x48.a x48.len x48.cap)])] [(.one .bool)] (fun r49 w =>
        moreS C w (fun C =>
        cond r49
          (semQ Try.prog C (Instr.loadAt 28 (.pointer (some x8))) (.agg [(.int .i64), (.int .i64), (.int .i64), (.int .i64), (.int .i64), (.int .i64), .str, .slc, .slc, .slc, .slc]) (fun x50 x51 x52 x53 x54 x55 x56 x57 x58 x59 x60 =>
          semQ Try.prog C (convert 25 9 (.slice p1.a p1.len p1.cap)) (.one .str) (fun x61 =>
          callS Try.prog 37 #[(.agg #[(.int .i64 x50), (.int .i64 x51), (.int .i64 x52), (.int .i64 x53), (.int .i64 x54), (.int .i64 x55), (.string x56), (.slice x57.a x57.len x57.cap), (.slice x58.a x58.len x58.cap), (.slice x59.a x59.len x59.cap), (.slice x60.a x60.len x60.cap)])] [(.one .slc)] (fun r62 w =>
          moreS C w (fun C =>
          semQ Try.prog C (Instr.sliceAt 25 (.slice r62.a r62.len r62.cap) (some (.int .i64 16)) none none) (.one .slc) (fun x63 =>
          semQ Try.prog C (convert 25 9 (.slice x63.a x63.len x63.cap)) (.one .str) (fun x64 =>
          semU Try.prog (Instr.storeAt 28 (.pointer (some x1)) (.agg #[(.int .i64 x27), (.int .i64 x28), (.int .i64 x29), (.int .i64 x30), (.int .i64 x31), (.int .i64 x32), (.string x33), (.slice x34.a x34.len x34.cap), (.slice x35.a x35.len x35.cap), (.slice x36.a x36.len x36.cap), (.slice x37.a x37.len x37.cap)])) (fun w =>
          moreS C w (fun C =>
          f41_t1 x1 (x64.toList == x61.toList) K w)) w)))) w)))
          (semU Try.prog (Instr.storeAt 28 (.pointer (some x1)) (.agg #[(.int .i64 x27), (.int .i64 x28), (.int .i64 x29), (.int .i64 x30), (.int .i64 x31), (.int .i64 x32), (.string x33), (.slice x34.a x34.len x34.cap), (.slice x35.a x35.len x35.cap), (.slice x36.a x36.len x36.cap), (.slice x37.a x37.len x37.cap)])) (fun w =>
          moreS C w (fun C =>
          f41_t1 x1 false K w)) w))) w))) w) w) w) w) w) w) w) w) w) w) w) w) w) w) w) w)) (48, 0) w) w) w) w) w) w) w) w) w)) w
theorem f41_ok {p0 : Int} {p1 : Sl} {K : Int → Int → Int → Int → Int → Int → ByteArray → Sl → Sl → Sl → Sl → Bool → World → Prop} {w : World} (h : f41 p0 p1 K w) : callS Try.prog 41 #[(.int .i64 p0), (.slice p1.a p1.len p1.cap)] [(.agg [(.int .i64), (.int .i64), (.int .i64), (.int .i64), (.int .i64), (.int .i64), .str, .slc, .slc, .slc, .slc]), (.one .bool)] K w :=
  calls_of_fn (args := [(.int .i64 p0), (.slice p1.a p1.len p1.cap)]) Try.f41 [] [] [] (.two .nil (.two .nil (.two .nil (.two .nil (.two .nil (.two (.two .nil (.one (.loop [(7, (.int .i64)), (9, (.int .i64))] .nil))) (.two .nil (.two .nil (.two .nil (.two .nil (.two .nil (.two (.draw [0, 0, 2, 6, 14, 30, 62, 126, 14, 270, 1022, 2046, 63, 8191]) .nil)))))))))))) (by kernel_rfl) (by kernel_rfl)
    (Eq.mp (by kernel_rfl : f41 p0 p1 K w = evFn Try.prog Try.f41 [] [] [] (.two .nil (.two .nil (.two .nil (.two .nil (.two .nil (.two (.two .nil (.one (.loop [(7, (.int .i64)), (9, (.int .i64))] .nil))) (.two .nil (.two .nil (.two .nil (.two .nil (.two .nil (.two (.draw [0, 0, 2, 6, 14, 30, 62, 126, 14, 270, 1022, 2046, 63, 8191]) .nil)))))))))))) [(.int .i64 p0), (.slice p1.a p1.len p1.cap)] [(.agg [(.int .i64), (.int .i64), (.int .i64), (.int .i64), (.int .i64), (.int .i64), .str, .slc, .slc, .slc, .slc]), (.one .bool)] K w) h)

/-- sallyport/sallyportref12.Parse -/
def f18 (p0 : Sl) (K : Sl → Int → World → Prop) (w : World) : Prop :=
  loopS (σ := Sl × Int) (fun s1 w again2 =>
    cond (decide (s1.2 < (p0.len : Int)))
      (cond ((s1.1.len : Int) == 32)
        (K (⟨none, 0, 0⟩) 11 w)
        (cond (decide ((IntKind.wrap .i64 ((p0.len : Int) - s1.2)) < 16))
          (K (⟨none, 0, 0⟩) 10 w)
          (callS Try.prog 40 #[(.slice p0.a p0.len p0.cap), (.int .i64 s1.2), (.int .i64 8)] [(.one (.int .i64))] (fun r3 w =>
          cond ((decide (r3 < 0)) || (decide (r3 > 4)))
            (K (⟨none, 0, 0⟩) 33 w)
            (callS Try.prog 40 #[(.slice p0.a p0.len p0.cap), (.int .i64 (IntKind.wrap .i64 (s1.2 + 8))), (.int .i64 8)] [(.one (.int .i64))] (fun r4 w =>
            cond ((decide (r4 < 0)) || (decide (r4 > (IntKind.wrap .i64 ((IntKind.wrap .i64 ((p0.len : Int) - s1.2)) - 16)))))
              (K (⟨none, 0, 0⟩) 10 w)
              (semS Try.prog (Instr.sliceAt 25 (.slice p0.a p0.len p0.cap) (some (.int .i64 (IntKind.wrap .i64 (s1.2 + 16)))) (some (.int .i64 (IntKind.wrap .i64 ((IntKind.wrap .i64 (s1.2 + 16)) + r4)))) none) (.one .slc) (fun x5 w =>
              callS Try.prog 41 #[(.int .i64 r3), (.slice x5.a x5.len x5.cap)] [(.agg [(.int .i64), (.int .i64), (.int .i64), (.int .i64), (.int .i64), (.int .i64), .str, .slc, .slc, .slc, .slc]), (.one .bool)] (fun r6 r7 r8 r9 r10 r11 r12 r13 r14 r15 r16 r17 w =>
              semS Try.prog (Instr.alloc 28 true (.tuple #[])) (.one .adr) (fun x18 w =>
              semU Try.prog (Instr.storeAt 28 (.pointer (some x18)) (.agg #[(.int .i64 r6), (.int .i64 r7), (.int .i64 r8), (.int .i64 r9), (.int .i64 r10), (.int .i64 r11), (.string r12), (.slice r13.a r13.len r13.cap), (.slice r14.a r14.len r14.cap), (.slice r15.a r15.len r15.cap), (.slice r16.a r16.len r16.cap)])) (fun w =>
              cond (!r17)
                (K (⟨none, 0, 0⟩) 12 w)
                (semS Try.prog (Instr.loadAt 28 (.pointer (some x18))) (.agg [(.int .i64), (.int .i64), (.int .i64), (.int .i64), (.int .i64), (.int .i64), .str, .slc, .slc, .slc, .slc]) (fun x19 x20 x21 x22 x23 x24 x25 x26 x27 x28 x29 w =>
                callS Try.prog 36 #[(.slice s1.1.a s1.1.len s1.1.cap), (.agg #[(.int .i64 x19), (.int .i64 x20), (.int .i64 x21), (.int .i64 x22), (.int .i64 x23), (.int .i64 x24), (.string x25), (.slice x26.a x26.len x26.cap), (.slice x27.a x27.len x27.cap), (.slice x28.a x28.len x28.cap), (.slice x29.a x29.len x29.cap)])] [(.one .bool)] (fun r30 w =>
                cond r30
                  (K (⟨none, 0, 0⟩) 35 w)
                  (semS Try.prog (Instr.loadAt 28 (.pointer (some x18))) (.agg [(.int .i64), (.int .i64), (.int .i64), (.int .i64), (.int .i64), (.int .i64), .str, .slc, .slc, .slc, .slc]) (fun x31 x32 x33 x34 x35 x36 x37 x38 x39 x40 x41 w =>
                  semS Try.prog (Instr.buildSlice 35 1 #[(0, (.agg #[(.int .i64 x31), (.int .i64 x32), (.int .i64 x33), (.int .i64 x34), (.int .i64 x35), (.int .i64 x36), (.string x37), (.slice x38.a x38.len x38.cap), (.slice x39.a x39.len x39.cap), (.slice x40.a x40.len x40.cap), (.slice x41.a x41.len x41.cap)]))]) (.one .slc) (fun x42 w =>
                  semS Try.prog (Builtin.append_ #[35, 35] 35 #[(.slice s1.1.a s1.1.len s1.1.cap), (.slice x42.a x42.len x42.cap)]) (.one .slc) (fun r43 w =>
                  again2 (r43, IntKind.wrap .i64 (s1.2 + (IntKind.wrap .i64 (16 + r4)))) w) w) w) w)) w) w)) w) w) w) w)) w)) w)))
      (K s1.1 0 w)) (⟨none, 0, 0⟩, 0) w
theorem f18_ok {p0 : Sl} {K : Sl → Int → World → Prop} {w : World} (h : f18 p0 K w) : callS Try.prog 18 #[(.slice p0.a p0.len p0.cap)] [(.one .slc), (.one (.int .i64))] K w :=
  calls_of_fn (args := [(.slice p0.a p0.len p0.cap)]) Try.f18 [] [] [] (.two .nil (.two .nil (.two .nil (.two (.one (.loop [(4, .slc), (5, (.int .i64))] .nil)) .nil)))) (by kernel_rfl) (by kernel_rfl)
    (Eq.mp (by kernel_rfl : f18 p0 K w = evFn Try.prog Try.f18 [] [] [] (.two .nil (.two .nil (.two .nil (.two (.one (.loop [(4, .slc), (5, (.int .i64))] .nil)) .nil)))) [(.slice p0.a p0.len p0.cap)] [(.one .slc), (.one (.int .i64))] K w) h)

/-- sallyport/sallyportlaw12.DescrParses -/
def f4 (p0 : Sl) (K : Bool → World → Prop) (w : World) : Prop :=
  callS Try.prog 8 #[] [(.one .bool)] (fun r1 w =>
  cond (!r1)
    (K false w)
    (cond (decide ((p0.len : Int) > 4000))
      (K true w)
      (callS Try.prog 16 #[(.slice p0.a p0.len p0.cap)] [(.one .slc), (.one (.int .i64))] (fun r2 r3 w =>
      callS Try.prog 18 #[(.slice p0.a p0.len p0.cap)] [(.one .slc), (.one (.int .i64))] (fun r4 r5 w =>
      cond ((r3 != r5) || ((r2.len : Int) != (r4.len : Int)))
        (K false w)
        (loopS (σ := Int) (fun x6 w again7 =>
          cond (decide (x6 < (r2.len : Int)))
            (semS Try.prog (Instr.indexAt 22 (.slice r2.a r2.len r2.cap) (.int .i64 x6)) (.one .adr) (fun x8 w =>
            semS Try.prog (Instr.loadAt 27 (.pointer (some x8))) (.agg [(.int .i64), (.int .i64), (.int .i64), (.int .i64), (.int .i64), (.int .i64), .str, .slc, .slc, .slc, .slc]) (fun x9 x10 x11 x12 x13 x14 x15 x16 x17 x18 x19 w =>
            semS Try.prog (Instr.alloc 27 true (.tuple #[])) (.one .adr) (fun x20 w =>
            semU Try.prog (Instr.storeAt 27 (.pointer (some x20)) (.agg #[(.int .i64 x9), (.int .i64 x10), (.int .i64 x11), (.int .i64 x12), (.int .i64 x13), (.int .i64 x14), (.string x15), (.slice x16.a x16.len x16.cap), (.slice x17.a x17.len x17.cap), (.slice x18.a x18.len x18.cap), (.slice x19.a x19.len x19.cap)])) (fun w =>
            drawS w fun C w =>
            semQ Try.prog C (Instr.loadAt 27 (.pointer (some x20))) (.agg [(.int .i64), (.int .i64), (.int .i64), (.int .i64), (.int .i64), (.int .i64), .str, .slc, .slc, .slc, .slc]) (fun x21 x22 x23 x24 x25 x26 x27 x28 x29 x30 x31 =>
            semQ Try.prog C (Instr.indexAt 35 (.slice r4.a r4.len r4.cap) (.int .i64 x6)) (.one .adr) (fun x32 =>
            semQ Try.prog C (Instr.loadAt 28 (.pointer (some x32))) (.agg [(.int .i64), (.int .i64), (.int .i64), (.int .i64), (.int .i64), (.int .i64), .str, .slc, .slc, .slc, .slc]) (fun x33 x34 x35 x36 x37 x38 x39 x40 x41 x42 x43 =>
            callS Try.prog 11 #[(.agg #[(.int .i64 x21), (.int .i64 x22), (.int .i64 x23), (.int .i64 x24), (.int .i64 x25), (.int .i64 x26), (.string x27), (.slice x28.a x28.len x28.cap), (.slice x29.a x29.len x29.cap), (.slice x30.a x30.len x30.cap), (.slice x31.a x31.len x31.cap)])] [(.agg [(.int .i64), (.int .i64), (.int .i64), (.int .i64), (.int .i64), (.int .i64), .str, .slc, .slc, .slc, .slc])] (fun r44 r45 r46 r47 r48 r49 r50 r51 r52 r53 r54 w =>
            moreS C w (fun C =>
            callS Try.prog 19 #[(.agg #[(.int .i64 r44), (.int .i64 r45), (.int .i64 r46), (.int .i64 r47), (.int .i64 r48), (.int .i64 r49), (.string r50), (.slice r51.a r51.len r51.cap), (.slice r52.a r52.len r52.cap), (.slice r53.a r53.len r53.cap), (.slice r54.a r54.len r54.cap)]), (.agg #[(.int .i64 x33), (.int .i64 x34), (.int .i64 x35), (.int .i64 x36), (.int .i64 x37), (.int .i64 x38), (.string x39), (.slice x40.a x40.len x40.cap), (.slice x41.a x41.len x41.cap), (.slice x42.a x42.len x42.cap), (.slice x43.a x43.len x43.cap)])] [(.one .bool)] (fun r55 w =>
            cond (!r55)
              (K false w)
              (again7 (IntKind.wrap .i64 (x6 + 1)) w)) w)) w)))) w) w) w) w)
            (cond (r5 != 0)
              (K true w)
              (callS Try.prog 13 #[(.slice r2.a r2.len r2.cap)] [(.one .slc), (.one (.int .i64))] (fun r56 r57 w =>
              joinS (σ := Bool) (fun b58 w =>
                K b58 w) fun J59 =>
              cond (r57 == 0)
                (semS Try.prog (convert 25 9 (.slice p0.a p0.len p0.cap)) (.one .str) (fun x60 w =>
                  semS Try.prog (convert 25 9 (.slice r56.a r56.len r56.cap)) (.one .str) (fun x61 w =>
                  J59 (x60.toList == x61.toList) w) w) w)
                (J59 false w)) w))) 0 w)) w) w))) w
theorem f4_ok {p0 : Sl} {K : Bool → World → Prop} {w : World} (h : f4 p0 K w) : callS Try.prog 4 #[(.slice p0.a p0.len p0.cap)] [(.one .bool)] K w :=
  calls_of_fn (args := [(.slice p0.a p0.len p0.cap)]) Try.f4 [] [] [] (.two .nil (.two .nil (.two .nil (.two .nil (.two .nil (.two .nil (.two (.two .nil (.one (.loop [(38, (.int .i64))] (.two .nil (.two .nil (.two (.one (.two .nil (.two (.draw [0, 1, 0, 0, 12, 28, 63, 127]) .nil))) .nil)))))) .nil))))))) (by kernel_rfl) (by kernel_rfl)
    (Eq.mp (by kernel_rfl : f4 p0 K w = evFn Try.prog Try.f4 [] [] [] (.two .nil (.two .nil (.two .nil (.two .nil (.two .nil (.two .nil (.two (.two .nil (.one (.loop [(38, (.int .i64))] (.two .nil (.two .nil (.two (.one (.two .nil (.two (.draw [0, 1, 0, 0, 12, 28, 63, 127]) .nil))) .nil)))))) .nil))))))) [(.slice p0.a p0.len p0.cap)] [(.one .bool)] K w) h)

/-- sallyport/sallyportlaw12.DescrCuts -/
def f5 (p0 : Sl) (p1 : Int) (K : Bool → World → Prop) (w : World) : Prop :=
  callS Try.prog 8 #[] [(.one .bool)] (fun r1 w =>
  cond (!r1)
    (K false w)
    (callS Try.prog 9 #[(.slice p0.a p0.len p0.cap)] [(.one .bool)] (fun r2 w =>
    cond ((!r2) || (decide (p1 < 0)))
      (K true w)
      (callS Try.prog 13 #[(.slice p0.a p0.len p0.cap)] [(.one .slc), (.one (.int .i64))] (fun r3 r4 w =>
      cond ((r4 != 0) || ((r3.len : Int) == 0))
        (K true w)
        (semS Try.prog (binS .rem 3 (.tmp 34) (.tmp 36) (.int .i64 p1) (.int .i64 (r3.len : Int))) (.one (.int .i64)) (fun x5 w =>
        semS Try.prog (Instr.sliceAt 25 (.slice r3.a r3.len r3.cap) none (some (.int .i64 x5)) none) (.one .slc) (fun x6 w =>
        callS Try.prog 16 #[(.slice x6.a x6.len x6.cap)] [(.one .slc), (.one (.int .i64))] (fun r7 r8 w =>
        loopS (σ := Int) (fun x9 w again10 =>
          cond (decide (x9 < (p0.len : Int)))
            (semS Try.prog (Instr.sliceAt 22 (.slice p0.a p0.len p0.cap) none (some (.int .i64 x9)) none) (.one .slc) (fun x11 w =>
            callS Try.prog 13 #[(.slice x11.a x11.len x11.cap)] [(.one .slc), (.one (.int .i64))] (fun r12 r13 w =>
            cond (r13 != 0)
              (K false w)
              (cond ((r12.len : Int) == x5)
                (joinS (σ := Bool) (fun b14 w =>
                  K b14 w) fun J15 =>
                cond (r8 == 0)
                  (semS Try.prog (Instr.sliceAt 22 (.slice p0.a p0.len p0.cap) none (some (.int .i64 x9)) none) (.one .slc) (fun x16 w =>
                    callS Try.prog 17 #[(.slice r7.a r7.len r7.cap), (.slice x16.a x16.len x16.cap)] [(.one .bool)] (fun r17 w =>
                    J15 r17 w) w) w)
                  (J15 false w))
                (again10 (IntKind.wrap .i64 (x9 + 1)) w))) w) w)
            (K ((r8 == 10) && ((r7.len : Int) == 0)) w)) 0 w) w) w) w)) w)) w)) w
theorem f5_ok {p0 : Sl} {p1 : Int} {K : Bool → World → Prop} {w : World} (h : f5 p0 p1 K w) : callS Try.prog 5 #[(.slice p0.a p0.len p0.cap), (.int .i64 p1)] [(.one .bool)] K w :=
  calls_of_fn (args := [(.slice p0.a p0.len p0.cap), (.int .i64 p1)]) Try.f5 [] [] [] (.two .nil (.two .nil (.two .nil (.two .nil (.two .nil (.two .nil (.two .nil (.two (.two .nil (.one (.loop [(47, (.int .i64))] .nil))) .nil)))))))) (by kernel_rfl) (by kernel_rfl)
    (Eq.mp (by kernel_rfl : f5 p0 p1 K w = evFn Try.prog Try.f5 [] [] [] (.two .nil (.two .nil (.two .nil (.two .nil (.two .nil (.two .nil (.two .nil (.two (.two .nil (.one (.loop [(47, (.int .i64))] .nil))) .nil)))))))) [(.slice p0.a p0.len p0.cap), (.int .i64 p1)] [(.one .bool)] K w) h)

/-- sallyport/sallyportlaw12.DescrSizes -/
def f6 (p0 : Sl) (K : Bool → World → Prop) (w : World) : Prop :=
  callS Try.prog 8 #[] [(.one .bool)] (fun r1 w =>
  cond (!r1)
    (K false w)
    (callS Try.prog 9 #[(.slice p0.a p0.len p0.cap)] [(.one .bool)] (fun r2 w =>
    cond (!r2)
      (K true w)
      (callS Try.prog 13 #[(.slice p0.a p0.len p0.cap)] [(.one .slc), (.one (.int .i64))] (fun r3 r4 w =>
      cond (r4 != 0)
        (K ((r3.len : Int) == 0) w)
        (loopS (σ := Int × Int) (fun s5 w again6 =>
          cond (decide (s5.2 < (p0.len : Int)))
            (semS Try.prog (Instr.indexAt 22 (.slice p0.a p0.len p0.cap) (.int .i64 s5.2)) (.one .adr) (fun x7 w =>
            semS Try.prog (Instr.loadAt 27 (.pointer (some x7))) (.agg [(.int .i64), (.int .i64), (.int .i64), (.int .i64), (.int .i64), (.int .i64), .str, .slc, .slc, .slc, .slc]) (fun x8 x9 x10 x11 x12 x13 x14 x15 x16 x17 x18 w =>
            semS Try.prog (Instr.alloc 27 true (.tuple #[])) (.one .adr) (fun x19 w =>
            semU Try.prog (Instr.storeAt 27 (.pointer (some x19)) (.agg #[(.int .i64 x8), (.int .i64 x9), (.int .i64 x10), (.int .i64 x11), (.int .i64 x12), (.int .i64 x13), (.string x14), (.slice x15.a x15.len x15.cap), (.slice x16.a x16.len x16.cap), (.slice x17.a x17.len x17.cap), (.slice x18.a x18.len x18.cap)])) (fun w =>
            semS Try.prog (Instr.loadAt 9 (.pointer (some (x19.add 6)))) (.one .str) (fun x20 w =>
            semS Try.prog (Instr.loadAt 25 (.pointer (some (x19.add 7)))) (.one .slc) (fun x21 w =>
            semS Try.prog (Instr.loadAt 25 (.pointer (some (x19.add 8)))) (.one .slc) (fun x22 w =>
            semS Try.prog (Instr.loadAt 25 (.pointer (some (x19.add 9)))) (.one .slc) (fun x23 w =>
            semS Try.prog (Instr.loadAt 25 (.pointer (some (x19.add 10)))) (.one .slc) (fun x24 w =>
            semS Try.prog (Instr.loadAt 27 (.pointer (some x19))) (.agg [(.int .i64), (.int .i64), (.int .i64), (.int .i64), (.int .i64), (.int .i64), .str, .slc, .slc, .slc, .slc]) (fun x25 x26 x27 x28 x29 x30 x31 x32 x33 x34 x35 w =>
            semS Try.prog (Instr.buildSlice 22 1 #[(0, (.agg #[(.int .i64 x25), (.int .i64 x26), (.int .i64 x27), (.int .i64 x28), (.int .i64 x29), (.int .i64 x30), (.string x31), (.slice x32.a x32.len x32.cap), (.slice x33.a x33.len x33.cap), (.slice x34.a x34.len x34.cap), (.slice x35.a x35.len x35.cap)]))]) (.one .slc) (fun x36 w =>
            callS Try.prog 13 #[(.slice x36.a x36.len x36.cap)] [(.one .slc), (.one (.int .i64))] (fun r37 r38 w =>
            cond ((r38 != 0) || ((Int.tmod (r37.len : Int) 8) != 0))
              (K false w)
              (again6 (IntKind.wrap .i64 (s5.1 + (IntKind.wrap .i64 (64 + (IntKind.wrap .i64 ((IntKind.wrap .i64 (Int.tdiv (IntKind.wrap .i64 ((IntKind.wrap .i64 ((IntKind.wrap .i64 ((IntKind.wrap .i64 ((IntKind.wrap .i64 ((x20.size : Int) + (x21.len : Int))) + (x22.len : Int))) + (x23.len : Int))) + (x24.len : Int))) + 7)) 8)) * 8))))), IntKind.wrap .i64 (s5.2 + 1)) w)) w) w) w) w) w) w) w) w) w) w) w) w)
            (K ((r3.len : Int) == s5.1) w)) (0, 0) w)) w)) w)) w
theorem f6_ok {p0 : Sl} {K : Bool → World → Prop} {w : World} (h : f6 p0 K w) : callS Try.prog 6 #[(.slice p0.a p0.len p0.cap)] [(.one .bool)] K w :=
  calls_of_fn (args := [(.slice p0.a p0.len p0.cap)]) Try.f6 [] [] [] (.two .nil (.two .nil (.two .nil (.two .nil (.two .nil (.two .nil (.two (.two .nil (.one (.loop [(5, (.int .i64)), (27, (.int .i64))] .nil))) .nil))))))) (by kernel_rfl) (by kernel_rfl)
    (Eq.mp (by kernel_rfl : f6 p0 K w = evFn Try.prog Try.f6 [] [] [] (.two .nil (.two .nil (.two .nil (.two .nil (.two .nil (.two .nil (.two (.two .nil (.one (.loop [(5, (.int .i64)), (27, (.int .i64))] .nil))) .nil))))))) [(.slice p0.a p0.len p0.cap)] [(.one .bool)] K w) h)

/-- sallyport/sallyportlaw12.DescrOwn -/
def f7 (p0 : Sl) (K : Bool → World → Prop) (w : World) : Prop :=
  callS Try.prog 8 #[] [(.one .bool)] (fun r1 w =>
  cond (!r1)
    (K false w)
    (callS Try.prog 9 #[(.slice p0.a p0.len p0.cap)] [(.one .bool)] (fun r2 w =>
    cond (!r2)
      (K true w)
      (callS Try.prog 13 #[(.slice p0.a p0.len p0.cap)] [(.one .slc), (.one (.int .i64))] (fun r3 r4 w =>
      cond (r4 != 0)
        (K true w)
        (semS Try.prog (Instr.buildSlice 25 0 #[]) (.one .slc) (fun x5 w =>
        semS Try.prog (Builtin.append_ #[25, 25] 25 #[(.slice x5.a x5.len x5.cap), (.slice r3.a r3.len r3.cap)]) (.one .slc) (fun r6 w =>
        callS Try.prog 16 #[(.slice r6.a r6.len r6.cap)] [(.one .slc), (.one (.int .i64))] (fun r7 r8 w =>
        loopS (σ := Int) (fun x9 w again10 =>
          cond (decide (x9 < (r6.len : Int)))
            (semS Try.prog (Instr.indexAt 25 (.slice r6.a r6.len r6.cap) (.int .i64 x9)) (.one .adr) (fun x11 w =>
            semS Try.prog (Instr.loadAt 5 (.pointer (some x11))) (.one (.int .u8)) (fun x12 w =>
            semS Try.prog (Instr.indexAt 25 (.slice r6.a r6.len r6.cap) (.int .i64 x9)) (.one .adr) (fun x13 w =>
            semU Try.prog (Instr.storeAt 5 (.pointer (some x13)) (.int .u8 (xorI .u8 x12 255))) (fun w =>
            again10 (IntKind.wrap .i64 (x9 + 1)) w) w) w) w) w)
            (callS Try.prog 13 #[(.slice r7.a r7.len r7.cap)] [(.one .slc), (.one (.int .i64))] (fun r14 r15 w =>
            joinS (σ := Bool) (fun b16 w =>
              joinS (σ := Bool) (fun b18 w =>
                K b18 w) fun J19 =>
              cond b16
                (callS Try.prog 17 #[(.slice p0.a p0.len p0.cap), (.slice r7.a r7.len r7.cap)] [(.one .bool)] (fun r20 w =>
                  J19 r20 w) w)
                (J19 false w)) fun J17 =>
            cond ((r8 == 0) && (r15 == 0))
              (semS Try.prog (convert 25 9 (.slice r14.a r14.len r14.cap)) (.one .str) (fun x21 w =>
                semS Try.prog (convert 25 9 (.slice r3.a r3.len r3.cap)) (.one .str) (fun x22 w =>
                J17 (x21.toList == x22.toList) w) w) w)
              (J17 false w)) w)) 0 w) w) w) w)) w)) w)) w
theorem f7_ok {p0 : Sl} {K : Bool → World → Prop} {w : World} (h : f7 p0 K w) : callS Try.prog 7 #[(.slice p0.a p0.len p0.cap)] [(.one .bool)] K w :=
  calls_of_fn (args := [(.slice p0.a p0.len p0.cap)]) Try.f7 [] [] [] (.two .nil (.two .nil (.two .nil (.two .nil (.two .nil (.two .nil (.two .nil (.two (.two .nil (.one (.loop [(33, (.int .i64))] .nil))) .nil)))))))) (by kernel_rfl) (by kernel_rfl)
    (Eq.mp (by kernel_rfl : f7 p0 K w = evFn Try.prog Try.f7 [] [] [] (.two .nil (.two .nil (.two .nil (.two .nil (.two .nil (.two .nil (.two .nil (.two (.two .nil (.one (.loop [(33, (.int .i64))] .nil))) .nil)))))))) [(.slice p0.a p0.len p0.cap)] [(.one .bool)] K w) h)

end Go.Proofs.Ytgjbajjggmpmmaa
