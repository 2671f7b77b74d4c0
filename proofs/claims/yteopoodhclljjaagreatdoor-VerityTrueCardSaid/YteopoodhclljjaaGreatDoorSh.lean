/- The functions of the program, each as a plain statement, with the proof that it suffices for a call: printed by sh.py out of the loaded code. -/
import Derived.Test.YteopoodhclljjaaGreatDoorSh0
import Derived.Test.YteopoodhclljjaaGreatDoorProg
set_option maxRecDepth 100000
set_option linter.unusedVariables false
namespace Go.Proofs.YteopoodhclljjaaGreatDoor
open Go Go.Eng

/-- (*sallyport/verity.Reader).climb -/
def f42 (p0 : Option Addr) (p1 : Sl) (K : Sl → Int → Int → World → Prop) (w : World) : Prop :=
 joinS (σ := Sl) (fun x1 w =>
 semS Tryz.prog (Instr.sliceAt 64 (.slice p1.a p1.len p1.cap) (some (.int .i64 (x1.len : Int))) none none) (.one .slc) (fun x3 w =>
 loopS (σ := Sl × Int) (fun s4 w again5 =>
 cond (decide (s4.2 < (x3.len : Int)))
 (semS Tryz.prog (Instr.indexAt 64 (.slice x3.a x3.len x3.cap) (.int .i64 s4.2)) (.one .adr) (fun x6 w =>
 semS Tryz.prog (Instr.loadAt 66 (.pointer (some x6))) (.one .cpx) (fun x7 w =>
 nilS p0 fun a8 =>
 semS Tryz.prog (Instr.loadAt 84 (.pointer (some (a8.add 17)))) (.one .mp) (fun x9 w =>
 semS Tryz.prog (Instr.lookup 84 (.map x9) (.complex .f64 x7.re x7.im) false) (.one .slc) (fun x10 w =>
 semS Tryz.prog (Instr.buildSlice 45 1 #[(0, (.slice x10.a x10.len x10.cap))]) (.one .slc) (fun x11 w =>
 semS Tryz.prog (Builtin.append_ #[45, 45] 45 #[(.slice s4.1.a s4.1.len s4.1.cap), (.slice x11.a x11.len x11.cap)]) (.one .slc) (fun r12 w =>
 again5 (r12, IntKind.wrap .i64 (s4.2 + 1)) w) w) w) w) w) w) w)
 (K s4.1 (x1.len : Int) 0 w)) (x1, 0) w) w) fun J2 =>
 loopS (σ := Sl × Int) (fun s13 w again14 =>
 cond (decide (s13.2 < (p1.len : Int)))
 (semS Tryz.prog (Instr.indexAt 64 (.slice p1.a p1.len p1.cap) (.int .i64 s13.2)) (.one .adr) (fun x15 w =>
 semS Tryz.prog (Instr.loadAt 66 (.pointer (some x15))) (.one .cpx) (fun x16 w =>
 nilS p0 fun a17 =>
 semS Tryz.prog (Instr.loadAt 84 (.pointer (some (a17.add 17)))) (.one .mp) (fun x18 w =>
 semS Tryz.prog (Instr.lookup 84 (.map x18) (.complex .f64 x16.re x16.im) false) (.one .slc) (fun x19 w =>
 semS Tryz.prog (binS .neq 22 (.tmp 24) (.const (Go.Value.slice none 0 0)) (.slice x19.a x19.len x19.cap) (.slice none 0 0)) (.one .bool) (fun x20 w =>
 cond x20
 (J2 s13.1 w)
 (callS Tryz.prog 72 #[(.pointer p0), (.complex .f64 x16.re x16.im)] [(.one .slc), (.one (.int .i64))] (fun r21 r22 w =>
 cond (r22 != 0)
 (K (⟨none, 0, 0⟩) 0 r22 w)
 (semS Tryz.prog (Instr.buildSlice 45 1 #[(0, (.slice r21.a r21.len r21.cap))]) (.one .slc) (fun x23 w =>
 semS Tryz.prog (Builtin.append_ #[45, 45] 45 #[(.slice s13.1.a s13.1.len s13.1.cap), (.slice x23.a x23.len x23.cap)]) (.one .slc) (fun r24 w =>
 again14 (r24, IntKind.wrap .i64 (s13.2 + 1)) w) w) w)) w)) w) w) w) w) w)
 (J2 s13.1 w)) (⟨none, 0, 0⟩, 0) w
theorem f42_ok {p0 : Option Addr} {p1 : Sl} {K : Sl → Int → Int → World → Prop} {w : World} (h : f42 p0 p1 K w) : callS Tryz.prog 42 #[(.pointer p0), (.slice p1.a p1.len p1.cap)] [(.one .slc), (.one (.int .i64)), (.one (.int .i64))] K w :=
 calls_of_fn (args := [(.pointer p0), (.slice p1.a p1.len p1.cap)]) Tryz.f42 [] [] [] (.two .nil (.join [(4, .slc)] (.two .nil (.one (.loop [(4, .slc), (15, (.int .i64))] .nil))) (.two .nil (.two (.two .nil (.one (.loop [(4, .slc), (46, (.int .i64))] .nil))) .nil)))) (by kernel_rfl) (by kernel_rfl)
 (Eq.mp (by kernel_rfl) h)

/-- bytes.Equal -/
def f51 (p0 : Sl) (p1 : Sl) (K : Bool → World → Prop) (w : World) : Prop :=
 semS Tryz.prog (convert 22 9 (.slice p0.a p0.len p0.cap)) (.one .str) (fun x1 w =>
 semS Tryz.prog (convert 22 9 (.slice p1.a p1.len p1.cap)) (.one .str) (fun x2 w =>
 K (x1.toList == x2.toList) w) w) w
theorem f51_ok {p0 : Sl} {p1 : Sl} {K : Bool → World → Prop} {w : World} (h : f51 p0 p1 K w) : callS Tryz.prog 51 #[(.slice p0.a p0.len p0.cap), (.slice p1.a p1.len p1.cap)] [(.one .bool)] K w :=
 calls_of_fn (args := [(.slice p0.a p0.len p0.cap), (.slice p1.a p1.len p1.cap)]) Tryz.f51 [] [] [] .nil (by kernel_rfl) (by kernel_rfl)
 (Eq.mp (by kernel_rfl) h)

/-- sallyport/span.Cut -/
def f76 (p0 : Sl) (p1 : Int) (p2 : Int) (K : Sl → Int → World → Prop) (w : World) : Prop :=
 callS Tryz.prog 67 #[(.int .i64 p1), (.int .i64 p2), (.int .i64 (p0.len : Int))] [(.one .bool)] (fun r1 w =>
 cond (!r1)
 (K (⟨none, 0, 0⟩) 10 w)
 (semS Tryz.prog (Instr.sliceAt 22 (.slice p0.a p0.len p0.cap) (some (.int .i64 p1)) (some (.int .i64 (IntKind.wrap .i64 (p1 + p2)))) none) (.one .slc) (fun x2 w =>
 callS Tryz.prog 29 #[(.slice x2.a x2.len x2.cap)] [(.one .slc)] (fun r3 w =>
 K r3 0 w) w) w)) w
theorem f76_ok {p0 : Sl} {p1 : Int} {p2 : Int} {K : Sl → Int → World → Prop} {w : World} (h : f76 p0 p1 p2 K w) : callS Tryz.prog 76 #[(.slice p0.a p0.len p0.cap), (.int .i64 p1), (.int .i64 p2)] [(.one .slc), (.one (.int .i64))] K w :=
 calls_of_fn (args := [(.slice p0.a p0.len p0.cap), (.int .i64 p1), (.int .i64 p2)]) Tryz.f76 [] [] [] .nil (by kernel_rfl) (by kernel_rfl)
 (Eq.mp (by kernel_rfl) h)

/-- sallyport/grove.Check -/
def f49 (p0 : Int) (p1 : Sl) (p2 : Sl) (p3 : Int) (p4 : Sl) (K : Bool → World → Prop) (w : World) : Prop :=
 callS Tryz.prog 30 #[(.int .i64 p0)] [(.one (.int .i64))] (fun r1 w =>
 callS Tryz.prog 76 #[(.slice p2.a p2.len p2.cap), (.int .i64 p3), (.int .i64 r1)] [(.one .slc), (.one (.int .i64))] (fun r2 r3 w =>
 semS Tryz.prog (Instr.buildSlice 45 1 #[(0, (.slice p4.a p4.len p4.cap))]) (.one .slc) (fun x4 w =>
 callS Tryz.prog 50 #[(.int .i64 p0), (.slice p1.a p1.len p1.cap), (.slice x4.a x4.len x4.cap)] [(.one .slc), (.one (.int .i64))] (fun r5 r6 w =>
 joinS (σ := Bool) (fun b7 w =>
 K b7 w) fun J8 =>
 cond ((r3 == 0) && (r6 == 0))
 (callS Tryz.prog 51 #[(.slice r5.a r5.len r5.cap), (.slice r2.a r2.len r2.cap)] [(.one .bool)] (fun r9 w =>
 J8 r9 w) w)
 (J8 false w)) w) w) w) w
theorem f49_ok {p0 : Int} {p1 : Sl} {p2 : Sl} {p3 : Int} {p4 : Sl} {K : Bool → World → Prop} {w : World} (h : f49 p0 p1 p2 p3 p4 K w) : callS Tryz.prog 49 #[(.int .i64 p0), (.slice p1.a p1.len p1.cap), (.slice p2.a p2.len p2.cap), (.int .i64 p3), (.slice p4.a p4.len p4.cap)] [(.one .bool)] K w :=
 calls_of_fn (args := [(.int .i64 p0), (.slice p1.a p1.len p1.cap), (.slice p2.a p2.len p2.cap), (.int .i64 p3), (.slice p4.a p4.len p4.cap)]) Tryz.f49 [] [] [] .nil (by kernel_rfl) (by kernel_rfl)
 (Eq.mp (by kernel_rfl) h)

/-- (*sallyport/verity.Reader).holds -/
def f43 (p0 : Option Addr) (p1 : Cx) (p2 : Sl) (p3 : Sl) (K : Bool → World → Prop) (w : World) : Prop :=
 nilS p0 fun a1 =>
 semS Tryz.prog (Instr.loadAt 72 (.pointer (some (a1.add 13)))) (.agg [(.int .i64), (.int .i64), (.int .i64)]) (fun x2 x3 x4 w =>
 callS Tryz.prog 48 #[(.agg #[(.int .i64 x2), (.int .i64 x3), (.int .i64 x4)]), (.complex .f64 p1.re p1.im)] [(.one .cpx), (.one (.int .i64)), (.one (.int .i64))] (fun r5 r6 r7 w =>
 cond (r7 != 0)
 (drawS w fun C w =>
 nilS p0 fun a8 =>
 semQ Tryz.prog C (Instr.loadAt 3 (.pointer (some ((a8.add 2).add 1)))) (.one (.int .i64)) (fun x9 =>
 nilS p0 fun a10 =>
 semQ Tryz.prog C (Instr.loadAt 22 (.pointer (some ((a10.add 2).add 7)))) (.one .slc) (fun x11 =>
 nilS p0 fun a12 =>
 semQ Tryz.prog C (Instr.loadAt 22 (.pointer (some ((a12.add 2).add 8)))) (.one .slc) (fun x13 =>
 callS Tryz.prog 49 #[(.int .i64 x9), (.slice x11.a x11.len x11.cap), (.slice x13.a x13.len x13.cap), (.int .i64 0), (.slice p2.a p2.len p2.cap)] [(.one .bool)] (fun r14 w =>
 K r14 w) w))))
 (drawS w fun C w =>
 nilS p0 fun a15 =>
 semQ Tryz.prog C (Instr.loadAt 3 (.pointer (some ((a15.add 2).add 1)))) (.one (.int .i64)) (fun x16 =>
 nilS p0 fun a17 =>
 semQ Tryz.prog C (Instr.loadAt 22 (.pointer (some ((a17.add 2).add 7)))) (.one .slc) (fun x18 =>
 callS Tryz.prog 49 #[(.int .i64 x16), (.slice x18.a x18.len x18.cap), (.slice p3.a p3.len p3.cap), (.int .i64 r6), (.slice p2.a p2.len p2.cap)] [(.one .bool)] (fun r19 w =>
 K r19 w) w)))) w) w
theorem f43_ok {p0 : Option Addr} {p1 : Cx} {p2 : Sl} {p3 : Sl} {K : Bool → World → Prop} {w : World} (h : f43 p0 p1 p2 p3 K w) : callS Tryz.prog 43 #[(.pointer p0), (.complex .f64 p1.re p1.im), (.slice p2.a p2.len p2.cap), (.slice p3.a p3.len p3.cap)] [(.one .bool)] K w :=
 calls_of_fn (args := [(.pointer p0), (.complex .f64 p1.re p1.im), (.slice p2.a p2.len p2.cap), (.slice p3.a p3.len p3.cap)]) Tryz.f43 [] [] [] (.two .nil (.two .nil (.two (.two .nil (.two (.two (.draw [0, 1, 3, 7, 15, 0, 32, 96, 224, 480, 0, 1024, 3072, 7168, 15360, 0, 65535, 131071]) .nil) .nil)) (.two (.draw [0, 1, 3, 7, 15, 0, 32, 96, 224, 480, 0, 0, 0, 8191, 16383]) .nil)))) (by kernel_rfl) (by kernel_rfl)
 (Eq.mp (by kernel_rfl) h)

/-- (*sallyport/verity.Reader).Read -/
def f16 (p0 : Option Addr) (p1 : Int) (K : Sl → Int → World → Prop) (w : World) : Prop :=
 nilS p0 fun a1 =>
 semU Tryz.prog (Instr.storeAt 45 (.pointer (some (a1.add 20))) (.slice none 0 0)) (fun w =>
 nilS p0 fun a2 =>
 semS Tryz.prog (Instr.loadAt 4 (.pointer (some (a2.add 19)))) (.one .bool) (fun x3 w =>
 cond x3
 (K (⟨none, 0, 0⟩) 58 w)
 (nilS p0 fun a4 =>
 semS Tryz.prog (Instr.loadAt 72 (.pointer (some (a4.add 13)))) (.agg [(.int .i64), (.int .i64), (.int .i64)]) (fun x5 x6 x7 w =>
 callS Tryz.prog 41 #[(.agg #[(.int .i64 x5), (.int .i64 x6), (.int .i64 x7)]), (.int .i64 p1)] [(.one .slc), (.one (.int .i64))] (fun r8 r9 w =>
 cond (r9 != 0)
 (K (⟨none, 0, 0⟩) r9 w)
 (callS Tryz.prog 42 #[(.pointer p0), (.slice r8.a r8.len r8.cap)] [(.one .slc), (.one (.int .i64)), (.one (.int .i64))] (fun r10 r11 r12 w =>
 cond (r12 != 0)
 (K (⟨none, 0, 0⟩) r12 w)
 (loopS (σ := Int) (fun x13 w again14 =>
 cond (decide (x13 ≥ 0))
 (joinS (σ := Sl) (fun x15 w =>
 drawS w fun C w =>
 semQ Tryz.prog C (Instr.indexAt 64 (.slice r8.a r8.len r8.cap) (.int .i64 x13)) (.one .adr) (fun x17 =>
 semQ Tryz.prog C (Instr.loadAt 66 (.pointer (some x17))) (.one .cpx) (fun x18 =>
 semQ Tryz.prog C (Instr.indexAt 45 (.slice r10.a r10.len r10.cap) (.int .i64 x13)) (.one .adr) (fun x19 =>
 semQ Tryz.prog C (Instr.loadAt 22 (.pointer (some x19))) (.one .slc) (fun x20 =>
 callS Tryz.prog 43 #[(.pointer p0), (.complex .f64 x18.re x18.im), (.slice x20.a x20.len x20.cap), (.slice x15.a x15.len x15.cap)] [(.one .bool)] (fun r21 w =>
 cond (!r21)
 (nilS p0 fun a22 =>
 semS Tryz.prog (Instr.loadAt 3 (.pointer (some (a22.add 16)))) (.one (.int .i64)) (fun x23 w =>
 nilS p0 fun a24 =>
 semU Tryz.prog (Instr.storeAt 4 (.pointer (some (a24.add 19))) (.bool (x23 == 1))) (fun w =>
 K (⟨none, 0, 0⟩) 54 w) w) w)
 (again14 (IntKind.wrap .i64 (x13 - 1)) w)) w))))) fun J16 =>
 cond (decide ((IntKind.wrap .i64 (x13 + 1)) < (r10.len : Int)))
 (semS Tryz.prog (Instr.indexAt 45 (.slice r10.a r10.len r10.cap) (.int .i64 (IntKind.wrap .i64 (x13 + 1)))) (.one .adr) (fun x25 w =>
 semS Tryz.prog (Instr.loadAt 22 (.pointer (some x25))) (.one .slc) (fun x26 w =>
 J16 x26 w) w) w)
 (J16 (⟨none, 0, 0⟩) w))
 (loopS (σ := Int) (fun x27 w again28 =>
 joinS (σ := Bool) (fun b29 w =>
 cond b29
 (drawS w fun C w =>
 nilS p0 fun a31 =>
 semQ Tryz.prog C (Instr.loadAt 84 (.pointer (some (a31.add 17)))) (.one .mp) (fun x32 =>
 semQ Tryz.prog C (Instr.indexAt 64 (.slice r8.a r8.len r8.cap) (.int .i64 x27)) (.one .adr) (fun x33 =>
 semQ Tryz.prog C (Instr.loadAt 66 (.pointer (some x33))) (.one .cpx) (fun x34 =>
 semQ Tryz.prog C (Instr.indexAt 45 (.slice r10.a r10.len r10.cap) (.int .i64 x27)) (.one .adr) (fun x35 =>
 semQ Tryz.prog C (Instr.loadAt 22 (.pointer (some x35))) (.one .slc) (fun x36 =>
 semU Tryz.prog (Instr.mapUpdate 84 (.map x32) (.complex .f64 x34.re x34.im) (.slice x36.a x36.len x36.cap)) (fun w =>
 drawS w fun C w =>
 nilS p0 fun a37 =>
 semQ Tryz.prog C (Instr.loadAt 64 (.pointer (some (a37.add 18)))) (.one .slc) (fun x38 =>
 semQ Tryz.prog C (Instr.indexAt 64 (.slice r8.a r8.len r8.cap) (.int .i64 x27)) (.one .adr) (fun x39 =>
 semQ Tryz.prog C (Instr.loadAt 66 (.pointer (some x39))) (.one .cpx) (fun x40 =>
 semS Tryz.prog (Instr.buildSlice 64 1 #[(0, (.complex .f64 x40.re x40.im))]) (.one .slc) (fun x41 w =>
 moreS C w (fun C =>
 semS Tryz.prog (Builtin.append_ #[64, 64] 64 #[(.slice x38.a x38.len x38.cap), (.slice x41.a x41.len x41.cap)]) (.one .slc) (fun r42 w =>
 nilS p0 fun a43 =>
 semU Tryz.prog (Instr.storeAt 64 (.pointer (some (a43.add 18))) (.slice r42.a r42.len r42.cap)) (fun w =>
 again28 (IntKind.wrap .i64 (x27 - 1)) w) w) w)) w)))) w))))))
 (nilS p0 fun a44 =>
 semU Tryz.prog (Instr.storeAt 45 (.pointer (some (a44.add 20))) (.slice r10.a r10.len r10.cap)) (fun w =>
 semS Tryz.prog (Instr.indexAt 45 (.slice r10.a r10.len r10.cap) (.int .i64 0)) (.one .adr) (fun x45 w =>
 semS Tryz.prog (Instr.loadAt 22 (.pointer (some x45))) (.one .slc) (fun x46 w =>
 callS Tryz.prog 29 #[(.slice x46.a x46.len x46.cap)] [(.one .slc)] (fun r47 w =>
 K r47 0 w) w) w) w) w)) fun J30 =>
 cond (decide (x27 ≥ 1))
 (nilS p0 fun a48 =>
 semS Tryz.prog (Instr.loadAt 64 (.pointer (some (a48.add 18)))) (.one .slc) (fun x49 w =>
 J30 (decide ((x49.len : Int) < 64)) w) w)
 (J30 false w)) (IntKind.wrap .i64 (r11 - 1)) w)) (IntKind.wrap .i64 (r11 - 1)) w)) w)) w) w)) w) w
theorem f16_ok {p0 : Option Addr} {p1 : Int} {K : Sl → Int → World → Prop} {w : World} (h : f16 p0 p1 K w) : callS Tryz.prog 16 #[(.pointer p0), (.int .i64 p1)] [(.one .slc), (.one (.int .i64))] K w :=
 calls_of_fn (args := [(.pointer p0), (.int .i64 p1)]) Tryz.f16 [] [] [] (.two .nil (.two .nil (.two .nil (.two .nil (.two .nil (.two .nil (.two .nil (.two (.two .nil (.one (.loop [(10, (.int .i64))] (.two .nil (.two (.one (.two .nil (.join [(11, .slc)] .nil (.two (.draw [0, 0, 0, 6, 14, 0, 0, 96, 224, 0, 1023, 2047]) .nil)))) .nil))))) (.two (.two .nil (.one (.loop [(12, (.int .i64))] (.two .nil (.two (.one (.two (.draw [0, 1, 3, 7, 0, 0, 48, 112, 0, 0, 768, 1792, 4095]) (.draw [0, 0, 2, 6, 14, 0, 0, 96, 224, 480, 1022, 2047, 4095, 8191]))) .nil))))) .nil))))))))) (by kernel_rfl) (by kernel_rfl)
 (Eq.mp (by kernel_rfl) h)

/-- (*sallyport/verity.Reader).Trace -/
def f19 (p0 : Option Addr) (K : Sl → World → Prop) (w : World) : Prop :=
 nilS p0 fun a1 =>
 semS Tryz.prog (Instr.loadAt 45 (.pointer (some (a1.add 20)))) (.one .slc) (fun x2 w =>
 loopS (σ := Sl × Int) (fun s3 w again4 =>
 cond (decide (s3.2 < (x2.len : Int)))
 (semS Tryz.prog (Instr.indexAt 45 (.slice x2.a x2.len x2.cap) (.int .i64 s3.2)) (.one .adr) (fun x5 w =>
 semS Tryz.prog (Instr.loadAt 22 (.pointer (some x5))) (.one .slc) (fun x6 w =>
 callS Tryz.prog 29 #[(.slice x6.a x6.len x6.cap)] [(.one .slc)] (fun r7 w =>
 semS Tryz.prog (Instr.buildSlice 45 1 #[(0, (.slice r7.a r7.len r7.cap))]) (.one .slc) (fun x8 w =>
 semS Tryz.prog (Builtin.append_ #[45, 45] 45 #[(.slice s3.1.a s3.1.len s3.1.cap), (.slice x8.a x8.len x8.cap)]) (.one .slc) (fun r9 w =>
 again4 (r9, IntKind.wrap .i64 (s3.2 + 1)) w) w) w) w) w) w)
 (K s3.1 w)) (⟨none, 0, 0⟩, 0) w) w
theorem f19_ok {p0 : Option Addr} {K : Sl → World → Prop} {w : World} (h : f19 p0 K w) : callS Tryz.prog 19 #[(.pointer p0)] [(.one .slc)] K w :=
 calls_of_fn (args := [(.pointer p0)]) Tryz.f19 [] [] [] (.two .nil (.two .nil (.two (.two .nil (.one (.loop [(3, .slc), (11, (.int .i64))] .nil))) .nil))) (by kernel_rfl) (by kernel_rfl)
 (Eq.mp (by kernel_rfl) h)

/-- slices.Clone[[]complex128,complex128] -/
def f44 (p0 : Sl) (K : Sl → World → Prop) (w : World) : Prop :=
 semS Tryz.prog (binS .eql 64 (.tmp 3) (.const (Go.Value.slice none 0 0)) (.slice p0.a p0.len p0.cap) (.slice none 0 0)) (.one .bool) (fun x1 w =>
 cond x1
 (K (⟨none, 0, 0⟩) w)
 (semS Tryz.prog (Instr.buildSlice 64 0 #[]) (.one .slc) (fun x2 w =>
 semS Tryz.prog (Builtin.append_ #[64, 64] 64 #[(.slice x2.a x2.len x2.cap), (.slice p0.a p0.len p0.cap)]) (.one .slc) (fun r3 w =>
 K r3 w) w) w)) w
theorem f44_ok {p0 : Sl} {K : Sl → World → Prop} {w : World} (h : f44 p0 K w) : callS Tryz.prog 44 #[(.slice p0.a p0.len p0.cap)] [(.one .slc)] K w :=
 calls_of_fn (args := [(.slice p0.a p0.len p0.cap)]) Tryz.f44 [] [] [] .nil (by kernel_rfl) (by kernel_rfl)
 (Eq.mp (by kernel_rfl) h)

/-- (*sallyport/verity.Reader).Known -/
def f20 (p0 : Option Addr) (K : Sl → World → Prop) (w : World) : Prop :=
 nilS p0 fun a1 =>
 semS Tryz.prog (Instr.loadAt 64 (.pointer (some (a1.add 18)))) (.one .slc) (fun x2 w =>
 callS Tryz.prog 44 #[(.slice x2.a x2.len x2.cap)] [(.one .slc)] (fun r3 w =>
 K r3 w) w) w
theorem f20_ok {p0 : Option Addr} {K : Sl → World → Prop} {w : World} (h : f20 p0 K w) : callS Tryz.prog 20 #[(.pointer p0)] [(.one .slc)] K w :=
 calls_of_fn (args := [(.pointer p0)]) Tryz.f20 [] [] [] .nil (by kernel_rfl) (by kernel_rfl)
 (Eq.mp (by kernel_rfl) h)

/-- sallyport/sallyportlaw17.anchor -/
def f5  (K : Bool → World → Prop) (w : World) : Prop :=
 semS Tryz.prog (Instr.makeSlice 22 (.int .i64 300) (.int .i64 300)) (.one .slc) (fun x1 w =>
 semS Tryz.prog (Instr.alloc 24 true (.tuple #[])) (.one .adr) (fun x2 w =>
 semU Tryz.prog (Instr.storeAt 24 (.pointer (some x2)) (.agg #[(.int .i64 1), (.int .i64 64), (.int .i64 0), (.slice none 0 0), (.slice x1.a x1.len x1.cap)])) (fun w =>
 semS Tryz.prog (Instr.loadAt 22 (.pointer (some (x2.add 4)))) (.one .slc) (fun x3 w =>
 semS Tryz.prog (Instr.indexAt 22 (.slice x3.a x3.len x3.cap) (.int .i64 299)) (.one .adr) (fun x4 w =>
 semU Tryz.prog (Instr.storeAt 5 (.pointer (some x4)) (.int .u8 7)) (fun w =>
 semS Tryz.prog (Instr.loadAt 24 (.pointer (some x2))) (.agg [(.int .i64), (.int .i64), (.int .i64), .slc, .slc]) (fun x5 x6 x7 x8 x9 w =>
 callS Tryz.prog 7 #[(.agg #[(.int .i64 x5), (.int .i64 x6), (.int .i64 x7), (.slice x8.a x8.len x8.cap), (.slice x9.a x9.len x9.cap)])] [(.one .ptr), (.agg [(.int .i64), (.int .i64), (.int .i64), (.int .i64), (.int .i64), (.int .i64), .str, .slc, .slc, .slc, .slc])] (fun r10 r11 r12 r13 r14 r15 r16 r17 r18 r19 r20 r21 w =>
 semS Tryz.prog (Instr.alloc 29 true (.tuple #[])) (.one .adr) (fun x22 w =>
 semU Tryz.prog (Instr.storeAt 29 (.pointer (some x22)) (.agg #[(.int .i64 r11), (.int .i64 r12), (.int .i64 r13), (.int .i64 r14), (.int .i64 r15), (.int .i64 r16), (.string r17), (.slice r18.a r18.len r18.cap), (.slice r19.a r19.len r19.cap), (.slice r20.a r20.len r20.cap), (.slice r21.a r21.len r21.cap)])) (fun w =>
 semS Tryz.prog (binS .eql 27 (.tmp 18) (.const (Go.Value.pointer none)) (.pointer r10) (.pointer none)) (.one .bool) (fun x23 w =>
 cond x23
 (K false w)
 (semS Tryz.prog (Instr.loadAt 29 (.pointer (some x22))) (.agg [(.int .i64), (.int .i64), (.int .i64), (.int .i64), (.int .i64), (.int .i64), .str, .slc, .slc, .slc, .slc]) (fun x24 x25 x26 x27 x28 x29 x30 x31 x32 x33 x34 w =>
 callS Tryz.prog 8 #[(.pointer r10), (.string (ByteArray.mk #[112])), (.agg #[(.int .i64 x24), (.int .i64 x25), (.int .i64 x26), (.int .i64 x27), (.int .i64 x28), (.int .i64 x29), (.string x30), (.slice x31.a x31.len x31.cap), (.slice x32.a x32.len x32.cap), (.slice x33.a x33.len x33.cap), (.slice x34.a x34.len x34.cap)]), (.int .i64 0)] [(.one .ptr), (.one (.int .i64))] (fun r35 r36 w =>
 joinS (σ := Bool) (fun b37 w =>
 joinS (σ := Bool) (fun b39 w =>
 cond b39
 (K false w)
 (callS Tryz.prog 16 #[(.pointer r35), (.int .i64 4)] [(.one .slc), (.one (.int .i64))] (fun r41 r42 w =>
 joinS (σ := Bool) (fun b43 w =>
 joinS (σ := Bool) (fun b45 w =>
 joinS (σ := Bool) (fun b47 w =>
 joinS (σ := Bool) (fun b49 w =>
 K b49 w) fun J50 =>
 cond b47
 (callS Tryz.prog 20 #[(.pointer r35)] [(.one .slc)] (fun r51 w =>
 J50 ((r51.len : Int) == 3) w) w)
 (J50 false w)) fun J48 =>
 cond b45
 (callS Tryz.prog 19 #[(.pointer r35)] [(.one .slc)] (fun r52 w =>
 J48 ((r52.len : Int) == 4) w) w)
 (J48 false w)) fun J46 =>
 cond b43
 (semS Tryz.prog (Instr.indexAt 22 (.slice r41.a r41.len r41.cap) (.int .i64 44)) (.one .adr) (fun x53 w =>
 semS Tryz.prog (Instr.loadAt 5 (.pointer (some x53))) (.one (.int .u8)) (fun x54 w =>
 J46 (x54 == 0) w) w) w)
 (J46 false w)) fun J44 =>
 cond ((r42 == 0) && ((r41.len : Int) == 64))
 (semS Tryz.prog (Instr.indexAt 22 (.slice r41.a r41.len r41.cap) (.int .i64 43)) (.one .adr) (fun x55 w =>
 semS Tryz.prog (Instr.loadAt 5 (.pointer (some x55))) (.one (.int .u8)) (fun x56 w =>
 J44 (x56 == 7) w) w) w)
 (J44 false w)) w)) fun J40 =>
 cond b37
 (J40 true w)
 (callS Tryz.prog 11 #[(.pointer r35)] [(.one (.int .i64))] (fun r57 w =>
 J40 (r57 != 5) w) w)) fun J38 =>
 cond (r36 != 0)
 (J38 true w)
 (semS Tryz.prog (binS .eql 32 (.tmp 29) (.const (Go.Value.pointer none)) (.pointer r35) (.pointer none)) (.one .bool) (fun x58 w =>
 J38 x58 w) w)) w) w)) w) w) w) w) w) w) w) w) w) w) w
theorem f5_ok  {K : Bool → World → Prop} {w : World} (h : f5  K w) : callS Tryz.prog 5 #[] [(.one .bool)] K w :=
 calls_of_fn (args := []) Tryz.f5 [] [] [] .nil (by kernel_rfl) (by kernel_rfl)
 (Eq.mp (by kernel_rfl) h)

/-- (sallyport/sallyportlaw17.Seed).small -/
def f6 (p0_0 : Int) (p0_1 : Int) (p0_2 : Int) (p0_3 : Sl) (p0_4 : Sl) (K : Bool → World → Prop) (w : World) : Prop :=
 semS Tryz.prog (Instr.box 24 (.agg #[(.int .i64 p0_0), (.int .i64 p0_1), (.int .i64 p0_2), (.slice p0_3.a p0_3.len p0_3.cap), (.slice p0_4.a p0_4.len p0_4.cap)])) (.one .adr) (fun x1 w =>
 semS Tryz.prog (Instr.loadAt 22 (.pointer (some (x1.add 3)))) (.one .slc) (fun x2 w =>
 joinS (σ := Bool) (fun b3 w =>
 joinS (σ := Bool) (fun b5 w =>
 K b5 w) fun J6 =>
 cond b3
 (semS Tryz.prog (Instr.loadAt 3 (.pointer (some (x1.add 1)))) (.one (.int .i64)) (fun x7 w =>
 J6 (decide (x7 ≤ 4096)) w) w)
 (J6 false w)) fun J4 =>
 cond (decide ((x2.len : Int) ≤ 64))
 (semS Tryz.prog (Instr.loadAt 22 (.pointer (some (x1.add 4)))) (.one .slc) (fun x8 w =>
 J4 (decide ((x8.len : Int) ≤ 1500)) w) w)
 (J4 false w)) w) w
theorem f6_ok {p0_0 : Int} {p0_1 : Int} {p0_2 : Int} {p0_3 : Sl} {p0_4 : Sl} {K : Bool → World → Prop} {w : World} (h : f6 p0_0 p0_1 p0_2 p0_3 p0_4 K w) : callS Tryz.prog 6 #[(.agg #[(.int .i64 p0_0), (.int .i64 p0_1), (.int .i64 p0_2), (.slice p0_3.a p0_3.len p0_3.cap), (.slice p0_4.a p0_4.len p0_4.cap)])] [(.one .bool)] K w :=
 calls_of_fn (args := [(.agg #[(.int .i64 p0_0), (.int .i64 p0_1), (.int .i64 p0_2), (.slice p0_3.a p0_3.len p0_3.cap), (.slice p0_4.a p0_4.len p0_4.cap)])]) Tryz.f6 [] [] [] .nil (by kernel_rfl) (by kernel_rfl)
 (Eq.mp (by kernel_rfl) h)

/-- (*sallyport/drive.Drive).Size -/
def f31 (p0 : Option Addr) (p1 : ByteArray) (K : Int → Int → World → Prop) (w : World) : Prop :=
 nilS p0 fun a1 =>
 semS Tryz.prog (Instr.loadAt 123 (.pointer (some (a1.add 1)))) (.one .mp) (fun x2 w =>
 semS Tryz.prog (Instr.lookup 123 (.map x2) (.string p1) false) (.one .ptr) (fun x3 w =>
 semS Tryz.prog (binS .neq 127 (.tmp 13) (.const (Go.Value.pointer none)) (.pointer x3) (.pointer none)) (.one .bool) (fun x4 w =>
 cond x4
 (nilS x3 fun a5 =>
 semS Tryz.prog (Instr.loadAt 22 (.pointer (some (a5.add 0)))) (.one .slc) (fun x6 w =>
 K (x6.len : Int) 0 w) w)
 (K 0 40 w)) w) w) w
theorem f31_ok {p0 : Option Addr} {p1 : ByteArray} {K : Int → Int → World → Prop} {w : World} (h : f31 p0 p1 K w) : callS Tryz.prog 31 #[(.pointer p0), (.string p1)] [(.one (.int .i64)), (.one (.int .i64))] K w :=
 calls_of_fn (args := [(.pointer p0), (.string p1)]) Tryz.f31 [] [] [] .nil (by kernel_rfl) (by kernel_rfl)
 (Eq.mp (by kernel_rfl) h)

/-- sallyport/sallyportlaw17.part -/
def f9 (p0 : Option Addr) (K : ByteArray → Sl → Sl → World → Prop) (w : World) : Prop :=
 semS Tryz.prog (Instr.alloc 38 true (.tuple #[])) (.one .adr) (fun x1 w =>
 callS Tryz.prog 31 #[(.pointer p0), (.string (ByteArray.mk #[112]))] [(.one (.int .i64)), (.one (.int .i64))] (fun r2 r3 w =>
 callS Tryz.prog 32 #[(.pointer p0), (.string (ByteArray.mk #[112])), (.int .i64 0), (.int .i64 r2)] [(.one .slc), (.one (.int .i64))] (fun r4 r5 w =>
 semS Tryz.prog (Instr.makeSlice 36 (.int .i64 (IntKind.wrap .i64 (Int.tdiv r2 64))) (.int .i64 (IntKind.wrap .i64 (Int.tdiv r2 64)))) (.one .slc) (fun x6 w =>
 semU Tryz.prog (Instr.storeAt 38 (.pointer (some x1)) (.agg #[(.string (ByteArray.mk #[112])), (.slice r4.a r4.len r4.cap), (.slice x6.a x6.len x6.cap)])) (fun w =>
 ∃ v7, (loadVar 38 x1).run Tryz.prog w = .ok v7 w ∧ decR [(.agg [.str, .slc, .slc])] v7 K fun r => r w) w) w) w) w) w
theorem f9_ok {p0 : Option Addr} {K : ByteArray → Sl → Sl → World → Prop} {w : World} (h : f9 p0 K w) : callS Tryz.prog 9 #[(.pointer p0)] [(.agg [.str, .slc, .slc])] K w :=
 calls_of_fn (args := [(.pointer p0)]) Tryz.f9 [] [] [] .nil (by kernel_rfl) (by kernel_rfl)
 (Eq.mp (by kernel_rfl) h)

/-- sallyport/sallyportmade.Descr -/
def f10 (p0_0 : Int) (p0_1 : Int) (p0_2 : Int) (p0_3 : Int) (p0_4 : Int) (p0_5 : Int) (p0_6 : ByteArray) (p0_7 : Sl) (p0_8 : Sl) (p0_9 : Sl) (p0_10 : Sl) (K : Int → Int → Int → Int → Int → Int → ByteArray → Sl → Sl → Sl → Sl → World → Prop) (w : World) : Prop :=
 semS Tryz.prog (Instr.box 29 (.agg #[(.int .i64 p0_0), (.int .i64 p0_1), (.int .i64 p0_2), (.int .i64 p0_3), (.int .i64 p0_4), (.int .i64 p0_5), (.string p0_6), (.slice p0_7.a p0_7.len p0_7.cap), (.slice p0_8.a p0_8.len p0_8.cap), (.slice p0_9.a p0_9.len p0_9.cap), (.slice p0_10.a p0_10.len p0_10.cap)])) (.one .adr) (fun x1 w =>
 semS Tryz.prog (Instr.alloc 42 true (.tuple #[])) (.one .adr) (fun x2 w =>
 semS Tryz.prog (Instr.loadAt 29 (.pointer (some x1))) (.agg [(.int .i64), (.int .i64), (.int .i64), (.int .i64), (.int .i64), (.int .i64), .str, .slc, .slc, .slc, .slc]) (fun x3 x4 x5 x6 x7 x8 x9 x10 x11 x12 x13 w =>
 semU Tryz.prog (Instr.storeAt 42 (.pointer (some x2)) (.agg #[(.int .i64 x3), (.int .i64 x4), (.int .i64 x5), (.int .i64 x6), (.int .i64 x7), (.int .i64 x8), (.string x9), (.slice x10.a x10.len x10.cap), (.slice x11.a x11.len x11.cap), (.slice x12.a x12.len x12.cap), (.slice x13.a x13.len x13.cap)])) (fun w =>
 ∃ v14, (loadVar 42 x2).run Tryz.prog w = .ok v14 w ∧ decR [(.agg [(.int .i64), (.int .i64), (.int .i64), (.int .i64), (.int .i64), (.int .i64), .str, .slc, .slc, .slc, .slc])] v14 K fun r => r w) w) w) w) w
theorem f10_ok {p0_0 : Int} {p0_1 : Int} {p0_2 : Int} {p0_3 : Int} {p0_4 : Int} {p0_5 : Int} {p0_6 : ByteArray} {p0_7 : Sl} {p0_8 : Sl} {p0_9 : Sl} {p0_10 : Sl} {K : Int → Int → Int → Int → Int → Int → ByteArray → Sl → Sl → Sl → Sl → World → Prop} {w : World} (h : f10 p0_0 p0_1 p0_2 p0_3 p0_4 p0_5 p0_6 p0_7 p0_8 p0_9 p0_10 K w) : callS Tryz.prog 10 #[(.agg #[(.int .i64 p0_0), (.int .i64 p0_1), (.int .i64 p0_2), (.int .i64 p0_3), (.int .i64 p0_4), (.int .i64 p0_5), (.string p0_6), (.slice p0_7.a p0_7.len p0_7.cap), (.slice p0_8.a p0_8.len p0_8.cap), (.slice p0_9.a p0_9.len p0_9.cap), (.slice p0_10.a p0_10.len p0_10.cap)])] [(.agg [(.int .i64), (.int .i64), (.int .i64), (.int .i64), (.int .i64), (.int .i64), .str, .slc, .slc, .slc, .slc])] K w :=
 calls_of_fn (args := [(.agg #[(.int .i64 p0_0), (.int .i64 p0_1), (.int .i64 p0_2), (.int .i64 p0_3), (.int .i64 p0_4), (.int .i64 p0_5), (.string p0_6), (.slice p0_7.a p0_7.len p0_7.cap), (.slice p0_8.a p0_8.len p0_8.cap), (.slice p0_9.a p0_9.len p0_9.cap), (.slice p0_10.a p0_10.len p0_10.cap)])]) Tryz.f10 [] [] [] .nil (by kernel_rfl) (by kernel_rfl)
 (Eq.mp (by kernel_rfl) h)

/-- sallyport/sallyportref07.Size -/
def f22 (p0 : Int) (K : Int → World → Prop) (w : World) : Prop :=
 cond (p0 == 1)
 (K 32 w)
 (cond (p0 == 2)
 (K 64 w)
 (K 0 w))
theorem f22_ok {p0 : Int} {K : Int → World → Prop} {w : World} (h : f22 p0 K w) : callS Tryz.prog 22 #[(.int .i64 p0)] [(.one (.int .i64))] K w :=
 calls_of_fn (args := [(.int .i64 p0)]) Tryz.f22 [] [] [] .nil (by kernel_rfl) (by kernel_rfl)
 (Eq.mp (by kernel_rfl) h)

/-- (*sallyport/sallyportref17.R).Shape -/
def f12 (p0 : Option Addr) (K : Int → Int → Int → World → Prop) (w : World) : Prop :=
 semS Tryz.prog (Instr.alloc 51 true (.tuple #[])) (.one .adr) (fun x1 w =>
 drawS w fun C w =>
 nilS p0 fun a2 =>
 semQ Tryz.prog C (Instr.loadAt 3 (.pointer (some ((a2.add 1).add 2)))) (.one (.int .i64)) (fun x3 =>
 nilS p0 fun a4 =>
 semQ Tryz.prog C (Instr.loadAt 3 (.pointer (some ((a4.add 1).add 3)))) (.one (.int .i64)) (fun x5 =>
 nilS p0 fun a6 =>
 semQ Tryz.prog C (Instr.loadAt 3 (.pointer (some ((a6.add 1).add 1)))) (.one (.int .i64)) (fun x7 =>
 callS Tryz.prog 22 #[(.int .i64 x7)] [(.one (.int .i64))] (fun r8 w =>
 moreS C w (fun C =>
 semU Tryz.prog (Instr.storeAt 51 (.pointer (some x1)) (.agg #[(.int .i64 x3), (.int .i64 x5), (.int .i64 r8)])) (fun w =>
 ∃ v9, (loadVar 51 x1).run Tryz.prog w = .ok v9 w ∧ decR [(.agg [(.int .i64), (.int .i64), (.int .i64)])] v9 K fun r => r w) w)) w)))) w
theorem f12_ok {p0 : Option Addr} {K : Int → Int → Int → World → Prop} {w : World} (h : f12 p0 K w) : callS Tryz.prog 12 #[(.pointer p0)] [(.agg [(.int .i64), (.int .i64), (.int .i64)])] K w :=
 calls_of_fn (args := [(.pointer p0)]) Tryz.f12 [] [] [] (.two .nil (.two (.draw [0, 1, 3, 7, 15, 0, 32, 96, 224, 480, 0, 1024, 3072, 7168, 15360, 31744, 65535, 131071]) .nil)) (by kernel_rfl) (by kernel_rfl)
 (Eq.mp (by kernel_rfl) h)

/-- sallyport/sallyportref08.up -/
def f34 (p0 : Int) (p1 : Int) (K : Int → World → Prop) (w : World) : Prop :=
 semS Tryz.prog (binS .rem 3 (.tmp 5) (.tmp 6) (.int .i64 p0) (.int .i64 p1)) (.one (.int .i64)) (fun x1 w =>
 cond (x1 == 0)
 (semS Tryz.prog (binS .quo 3 (.tmp 9) (.tmp 10) (.int .i64 p0) (.int .i64 p1)) (.one (.int .i64)) (fun x2 w =>
 K x2 w) w)
 (semS Tryz.prog (binS .quo 3 (.tmp 12) (.tmp 13) (.int .i64 p0) (.int .i64 p1)) (.one (.int .i64)) (fun x3 w =>
 K (IntKind.wrap .i64 (x3 + 1)) w) w)) w
theorem f34_ok {p0 : Int} {p1 : Int} {K : Int → World → Prop} {w : World} (h : f34 p0 p1 K w) : callS Tryz.prog 34 #[(.int .i64 p0), (.int .i64 p1)] [(.one (.int .i64))] K w :=
 calls_of_fn (args := [(.int .i64 p0), (.int .i64 p1)]) Tryz.f34 [] [] [] .nil (by kernel_rfl) (by kernel_rfl)
 (Eq.mp (by kernel_rfl) h)

/-- (sallyport/sallyportref08.Shape).Counts -/
def f13 (p0_0 : Int) (p0_1 : Int) (p0_2 : Int) (K : Sl → World → Prop) (w : World) : Prop :=
 semS Tryz.prog (Instr.box 51 (.agg #[(.int .i64 p0_0), (.int .i64 p0_1), (.int .i64 p0_2)])) (.one .adr) (fun x1 w =>
 semS Tryz.prog (Instr.loadAt 3 (.pointer (some (x1.add 0)))) (.one (.int .i64)) (fun x2 w =>
 semS Tryz.prog (Instr.loadAt 3 (.pointer (some (x1.add 1)))) (.one (.int .i64)) (fun x3 w =>
 callS Tryz.prog 34 #[(.int .i64 x2), (.int .i64 x3)] [(.one (.int .i64))] (fun r4 w =>
 semS Tryz.prog (Instr.buildSlice 49 1 #[(0, (.int .i64 r4))]) (.one .slc) (fun x5 w =>
 loopS (σ := Int × Sl) (fun s6 w again7 =>
 cond (decide (s6.1 > 1))
 (semS Tryz.prog (Instr.loadAt 3 (.pointer (some (x1.add 1)))) (.one (.int .i64)) (fun x8 w =>
 semS Tryz.prog (Instr.loadAt 3 (.pointer (some (x1.add 2)))) (.one (.int .i64)) (fun x9 w =>
 semS Tryz.prog (binS .quo 3 (.tmp 16) (.tmp 18) (.int .i64 x8) (.int .i64 x9)) (.one (.int .i64)) (fun x10 w =>
 callS Tryz.prog 34 #[(.int .i64 s6.1), (.int .i64 x10)] [(.one (.int .i64))] (fun r11 w =>
 semS Tryz.prog (Instr.buildSlice 49 1 #[(0, (.int .i64 r11))]) (.one .slc) (fun x12 w =>
 semS Tryz.prog (Builtin.append_ #[49, 49] 49 #[(.slice s6.2.a s6.2.len s6.2.cap), (.slice x12.a x12.len x12.cap)]) (.one .slc) (fun r13 w =>
 again7 (r11, r13) w) w) w) w) w) w) w)
 (K s6.2 w)) (r4, x5) w) w) w) w) w) w
theorem f13_ok {p0_0 : Int} {p0_1 : Int} {p0_2 : Int} {K : Sl → World → Prop} {w : World} (h : f13 p0_0 p0_1 p0_2 K w) : callS Tryz.prog 13 #[(.agg #[(.int .i64 p0_0), (.int .i64 p0_1), (.int .i64 p0_2)])] [(.one .slc)] K w :=
 calls_of_fn (args := [(.agg #[(.int .i64 p0_0), (.int .i64 p0_1), (.int .i64 p0_2)])]) Tryz.f13 [] [] [] (.two .nil (.two .nil (.two .nil (.two (.one (.loop [(3, (.int .i64)), (4, .slc)] .nil)) .nil)))) (by kernel_rfl) (by kernel_rfl)
 (Eq.mp (by kernel_rfl) h)

/-- (*sallyport/drive.Drive).Turn -/
def f35 (p0 : Option Addr) (p1 : ByteArray) (p2 : Int) (p3 : Sl) (K : Bool → World → Prop) (w : World) : Prop :=
 nilS p0 fun a1 =>
 semS Tryz.prog (Instr.loadAt 123 (.pointer (some (a1.add 1)))) (.one .mp) (fun x2 w =>
 semS Tryz.prog (Instr.lookup 123 (.map x2) (.string p1) false) (.one .ptr) (fun x3 w =>
 semS Tryz.prog (binS .eql 127 (.tmp 18) (.const (Go.Value.pointer none)) (.pointer x3) (.pointer none)) (.one .bool) (fun x4 w =>
 joinS (σ := Bool) (fun b5 w =>
 cond b5
 (K false w)
 (loopS (σ := Int) (fun x7 w again8 =>
 cond (decide (x7 < (p3.len : Int)))
 (semS Tryz.prog (Instr.indexAt 22 (.slice p3.a p3.len p3.cap) (.int .i64 x7)) (.one .adr) (fun x9 w =>
 semS Tryz.prog (Instr.loadAt 5 (.pointer (some x9))) (.one (.int .u8)) (fun x10 w =>
 nilS x3 fun a11 =>
 semS Tryz.prog (Instr.loadAt 22 (.pointer (some (a11.add 0)))) (.one .slc) (fun x12 w =>
 semS Tryz.prog (Instr.indexAt 22 (.slice x12.a x12.len x12.cap) (.int .i64 (IntKind.wrap .i64 (p2 + x7)))) (.one .adr) (fun x13 w =>
 semS Tryz.prog (Instr.loadAt 5 (.pointer (some x13))) (.one (.int .u8)) (fun x14 w =>
 semS Tryz.prog (Instr.indexAt 22 (.slice x12.a x12.len x12.cap) (.int .i64 (IntKind.wrap .i64 (p2 + x7)))) (.one .adr) (fun x15 w =>
 semU Tryz.prog (Instr.storeAt 5 (.pointer (some x15)) (.int .u8 (xorI .u8 x14 x10))) (fun w =>
 again8 (IntKind.wrap .i64 (x7 + 1)) w) w) w) w) w) w) w) w)
 (K true w)) 0 w)) fun J6 =>
 cond x4
 (J6 true w)
 (nilS x3 fun a16 =>
 semS Tryz.prog (Instr.loadAt 22 (.pointer (some (a16.add 0)))) (.one .slc) (fun x17 w =>
 callS Tryz.prog 67 #[(.int .i64 p2), (.int .i64 (p3.len : Int)), (.int .i64 (x17.len : Int))] [(.one .bool)] (fun r18 w =>
 J6 (!r18) w) w) w)) w) w) w
theorem f35_ok {p0 : Option Addr} {p1 : ByteArray} {p2 : Int} {p3 : Sl} {K : Bool → World → Prop} {w : World} (h : f35 p0 p1 p2 p3 K w) : callS Tryz.prog 35 #[(.pointer p0), (.string p1), (.int .i64 p2), (.slice p3.a p3.len p3.cap)] [(.one .bool)] K w :=
 calls_of_fn (args := [(.pointer p0), (.string p1), (.int .i64 p2), (.slice p3.a p3.len p3.cap)]) Tryz.f35 [] [] [] (.two .nil (.two .nil (.two .nil (.two (.two .nil (.one (.loop [(34, (.int .i64))] .nil))) .nil)))) (by kernel_rfl) (by kernel_rfl)
 (Eq.mp (by kernel_rfl) h)

/-- (*sallyport/drive.Drive).Bad -/
def f36 (p0 : Option Addr) (p1 : ByteArray) (p2 : Int) (p3 : Bool) (K : Bool → World → Prop) (w : World) : Prop :=
 nilS p0 fun a1 =>
 semS Tryz.prog (Instr.loadAt 123 (.pointer (some (a1.add 1)))) (.one .mp) (fun x2 w =>
 semS Tryz.prog (Instr.lookup 123 (.map x2) (.string p1) false) (.one .ptr) (fun x3 w =>
 semS Tryz.prog (binS .eql 127 (.tmp 16) (.const (Go.Value.pointer none)) (.pointer x3) (.pointer none)) (.one .bool) (fun x4 w =>
 joinS (σ := Bool) (fun b5 w =>
 cond b5
 (K false w)
 (nilS x3 fun a7 =>
 semS Tryz.prog (Instr.loadAt 128 (.pointer (some (a7.add 1)))) (.one .mp) (fun x8 w =>
 semU Tryz.prog (Instr.mapUpdate 128 (.map x8) (.int .i64 p2) (.bool true)) (fun w =>
 cond (!p3)
 (nilS x3 fun a9 =>
 semS Tryz.prog (Instr.loadAt 128 (.pointer (some (a9.add 1)))) (.one .mp) (fun x10 w =>
 semS Tryz.prog (Builtin.delete_ #[128, 3] 0 #[(.map x10), (.int .i64 p2)]) (.tup []) (fun w =>
 K true w) w) w)
 (K true w)) w) w)) fun J6 =>
 cond (x4 || (decide (p2 < 0)))
 (J6 true w)
 (nilS x3 fun a11 =>
 semS Tryz.prog (Instr.loadAt 22 (.pointer (some (a11.add 0)))) (.one .slc) (fun x12 w =>
 J6 (decide (p2 ≥ (IntKind.wrap .i64 (Int.tdiv (x12.len : Int) 64)))) w) w)) w) w) w
theorem f36_ok {p0 : Option Addr} {p1 : ByteArray} {p2 : Int} {p3 : Bool} {K : Bool → World → Prop} {w : World} (h : f36 p0 p1 p2 p3 K w) : callS Tryz.prog 36 #[(.pointer p0), (.string p1), (.int .i64 p2), (.bool p3)] [(.one .bool)] K w :=
 calls_of_fn (args := [(.pointer p0), (.string p1), (.int .i64 p2), (.bool p3)]) Tryz.f36 [] [] [] .nil (by kernel_rfl) (by kernel_rfl)
 (Eq.mp (by kernel_rfl) h)

/-- sallyport/sallyportlaw17.turn -/
def f14 (p0 : Option Addr) (p1 : Option Addr) (p2_0 : Int) (p2_1 : Int) (p2_2 : Sl) (p2_3 : Bool) (K : World → Prop) (w : World) : Prop :=
 semS Tryz.prog (Instr.box 55 (.agg #[(.int .i64 p2_0), (.int .i64 p2_1), (.slice p2_2.a p2_2.len p2_2.cap), (.bool p2_3)])) (.one .adr) (fun x1 w =>
 semS Tryz.prog (Instr.loadAt 3 (.pointer (some (x1.add 0)))) (.one (.int .i64)) (fun x2 w =>
 cond (x2 == 2)
 (semS Tryz.prog (Instr.loadAt 3 (.pointer (some (x1.add 1)))) (.one (.int .i64)) (fun x3 w =>
 semS Tryz.prog (Instr.loadAt 22 (.pointer (some (x1.add 2)))) (.one .slc) (fun x4 w =>
 callS Tryz.prog 35 #[(.pointer p0), (.string (ByteArray.mk #[112])), (.int .i64 x3), (.slice x4.a x4.len x4.cap)] [(.one .bool)] (fun r5 w =>
 cond r5
 (semS Tryz.prog (Instr.loadAt 22 (.pointer (some (x1.add 2)))) (.one .slc) (fun x6 w =>
 loopS (σ := Int) (fun x7 w again8 =>
 cond (decide (x7 < (x6.len : Int)))
 (semS Tryz.prog (Instr.indexAt 22 (.slice x6.a x6.len x6.cap) (.int .i64 x7)) (.one .adr) (fun x9 w =>
 semS Tryz.prog (Instr.loadAt 5 (.pointer (some x9))) (.one (.int .u8)) (fun x10 w =>
 drawS w fun C w =>
 nilS p1 fun a11 =>
 semQ Tryz.prog C (Instr.loadAt 22 (.pointer (some (a11.add 1)))) (.one .slc) (fun x12 =>
 semQ Tryz.prog C (Instr.loadAt 3 (.pointer (some (x1.add 1)))) (.one (.int .i64)) (fun x13 =>
 semQ Tryz.prog C (Instr.indexAt 22 (.slice x12.a x12.len x12.cap) (.int .i64 (IntKind.wrap .i64 (x13 + x7)))) (.one .adr) (fun x14 =>
 semQ Tryz.prog C (Instr.loadAt 5 (.pointer (some x14))) (.one (.int .u8)) (fun x15 =>
 semQ Tryz.prog C (Instr.indexAt 22 (.slice x12.a x12.len x12.cap) (.int .i64 (IntKind.wrap .i64 (x13 + x7)))) (.one .adr) (fun x16 =>
 semU Tryz.prog (Instr.storeAt 5 (.pointer (some x16)) (.int .u8 (xorI .u8 x15 x10))) (fun w =>
 again8 (IntKind.wrap .i64 (x7 + 1)) w) w)))))) w) w)
 (K w)) 0 w) w)
 (K w)) w) w) w)
 (cond (x2 == 3)
 (semS Tryz.prog (Instr.loadAt 3 (.pointer (some (x1.add 1)))) (.one (.int .i64)) (fun x17 w =>
 semS Tryz.prog (Instr.loadAt 4 (.pointer (some (x1.add 3)))) (.one .bool) (fun x18 w =>
 callS Tryz.prog 36 #[(.pointer p0), (.string (ByteArray.mk #[112])), (.int .i64 x17), (.bool x18)] [(.one .bool)] (fun r19 w =>
 cond r19
 (drawS w fun C w =>
 nilS p1 fun a20 =>
 semQ Tryz.prog C (Instr.loadAt 36 (.pointer (some (a20.add 2)))) (.one .slc) (fun x21 =>
 semQ Tryz.prog C (Instr.loadAt 3 (.pointer (some (x1.add 1)))) (.one (.int .i64)) (fun x22 =>
 semQ Tryz.prog C (Instr.loadAt 4 (.pointer (some (x1.add 3)))) (.one .bool) (fun x23 =>
 semQ Tryz.prog C (Instr.indexAt 36 (.slice x21.a x21.len x21.cap) (.int .i64 x22)) (.one .adr) (fun x24 =>
 semU Tryz.prog (Instr.storeAt 4 (.pointer (some x24)) (.bool x23)) (fun w =>
 K w) w)))))
 (K w)) w) w) w)
 (K w))) w) w
theorem f14_ok {p0 : Option Addr} {p1 : Option Addr} {p2_0 : Int} {p2_1 : Int} {p2_2 : Sl} {p2_3 : Bool} {K : World → Prop} {w : World} (h : f14 p0 p1 p2_0 p2_1 p2_2 p2_3 K w) : callS Tryz.prog 14 #[(.pointer p0), (.pointer p1), (.agg #[(.int .i64 p2_0), (.int .i64 p2_1), (.slice p2_2.a p2_2.len p2_2.cap), (.bool p2_3)])] [] K w :=
 calls_of_fn (args := [(.pointer p0), (.pointer p1), (.agg #[(.int .i64 p2_0), (.int .i64 p2_1), (.slice p2_2.a p2_2.len p2_2.cap), (.bool p2_3)])]) Tryz.f14 [] [] [] (.two .nil (.two .nil (.one (.two .nil (.two (.two .nil (.two (.two .nil (.one (.loop [(21, (.int .i64))] (.two .nil (.two .nil (.two (.one (.two .nil (.draw [0, 1, 3, 7, 0, 16, 0, 112, 255, 511, 0, 2047, 4095, 8191]))) .nil)))))) .nil)) (.two .nil (.two (.two .nil (.two (.draw [0, 1, 3, 7, 0, 16, 0, 64, 255, 511]) .nil)) .nil))))))) (by kernel_rfl) (by kernel_rfl)
 (Eq.mp (by kernel_rfl) h)

/-- (sallyport/sallyportref08.Shape).Above -/
def f68 (p0_0 : Int) (p0_1 : Int) (p0_2 : Int) (p1_0 : Int) (p1_1 : Int) (K : Int → Int → Int → World → Prop) (w : World) : Prop :=
 semS Tryz.prog (Instr.box 51 (.agg #[(.int .i64 p0_0), (.int .i64 p0_1), (.int .i64 p0_2)])) (.one .adr) (fun x1 w =>
 semS Tryz.prog (Instr.box 68 (.agg #[(.int .i64 p1_0), (.int .i64 p1_1)])) (.one .adr) (fun x2 w =>
 semS Tryz.prog (Instr.alloc 68 true (.tuple #[])) (.one .adr) (fun x3 w =>
 semS Tryz.prog (Instr.loadAt 3 (.pointer (some (x1.add 1)))) (.one (.int .i64)) (fun x4 w =>
 semS Tryz.prog (Instr.loadAt 3 (.pointer (some (x1.add 2)))) (.one (.int .i64)) (fun x5 w =>
 semS Tryz.prog (binS .quo 3 (.tmp 8) (.tmp 10) (.int .i64 x4) (.int .i64 x5)) (.one (.int .i64)) (fun x6 w =>
 drawS w fun C w =>
 semQ Tryz.prog C (Instr.loadAt 3 (.pointer (some (x2.add 0)))) (.one (.int .i64)) (fun x7 =>
 semQ Tryz.prog C (binS .quo 3 (.tmp 13) (.tmp 14) (.int .i64 x7) (.int .i64 x6)) (.one (.int .i64)) (fun x8 =>
 semQ Tryz.prog C (Instr.loadAt 3 (.pointer (some (x2.add 1)))) (.one (.int .i64)) (fun x9 =>
 semQ Tryz.prog C (Instr.loadAt 3 (.pointer (some (x2.add 0)))) (.one (.int .i64)) (fun x10 =>
 semQ Tryz.prog C (binS .rem 3 (.tmp 21) (.tmp 22) (.int .i64 x10) (.int .i64 x6)) (.one (.int .i64)) (fun x11 =>
 semQ Tryz.prog C (Instr.loadAt 3 (.pointer (some (x1.add 2)))) (.one (.int .i64)) (fun x12 =>
 semU Tryz.prog (Instr.storeAt 68 (.pointer (some x3)) (.agg #[(.int .i64 x8), (.int .i64 (IntKind.wrap .i64 (x9 + 1)))])) (fun w =>
 moreS C w (fun C =>
 ∃ v13, (loadVar 68 x3).run Tryz.prog w = .ok v13 w ∧ decR [(.agg [(.int .i64), (.int .i64)]), (.one (.int .i64))] (.tuple #[v13, (.int .i64 (IntKind.wrap .i64 (x11 * x12)))]) K fun r => r w)) w))))))) w) w) w) w) w) w
theorem f68_ok {p0_0 : Int} {p0_1 : Int} {p0_2 : Int} {p1_0 : Int} {p1_1 : Int} {K : Int → Int → Int → World → Prop} {w : World} (h : f68 p0_0 p0_1 p0_2 p1_0 p1_1 K w) : callS Tryz.prog 68 #[(.agg #[(.int .i64 p0_0), (.int .i64 p0_1), (.int .i64 p0_2)]), (.agg #[(.int .i64 p1_0), (.int .i64 p1_1)])] [(.agg [(.int .i64), (.int .i64)]), (.one (.int .i64))] K w :=
 calls_of_fn (args := [(.agg #[(.int .i64 p0_0), (.int .i64 p0_1), (.int .i64 p0_2)]), (.agg #[(.int .i64 p1_0), (.int .i64 p1_1)])]) Tryz.f68 [] [] [] (.two .nil (.two .nil (.two (.draw [0, 1, 0, 7, 0, 16, 48, 127, 0, 256, 0, 1792, 0, 4096, 16128, 255, 65535]) .nil))) (by kernel_rfl) (by kernel_rfl)
 (Eq.mp (by kernel_rfl) h)

/-- (*sallyport/sallyportref17.R).path -/
def f37 (p0 : Option Addr) (p1 : Int) (K : Sl → World → Prop) (w : World) : Prop :=
 callS Tryz.prog 12 #[(.pointer p0)] [(.agg [(.int .i64), (.int .i64), (.int .i64)])] (fun r1 r2 r3 w =>
 semS Tryz.prog (Instr.alloc 51 true (.tuple #[])) (.one .adr) (fun x4 w =>
 semU Tryz.prog (Instr.storeAt 51 (.pointer (some x4)) (.agg #[(.int .i64 r1), (.int .i64 r2), (.int .i64 r3)])) (fun w =>
 semS Tryz.prog (Instr.alloc 68 true (.tuple #[])) (.one .adr) (fun x5 w =>
 semU Tryz.prog (Instr.storeAt 68 (.pointer (some x5)) (.agg #[(.int .i64 p1), (.int .i64 0)])) (fun w =>
 semS Tryz.prog (Instr.loadAt 68 (.pointer (some x5))) (.agg [(.int .i64), (.int .i64)]) (fun x6 x7 w =>
 semS Tryz.prog (Instr.buildSlice 44 1 #[(0, (.agg #[(.int .i64 x6), (.int .i64 x7)]))]) (.one .slc) (fun x8 w =>
 loopS (σ := Sl × Int) (fun s9 w again10 =>
 semS Tryz.prog (Instr.loadAt 51 (.pointer (some x4))) (.agg [(.int .i64), (.int .i64), (.int .i64)]) (fun x11 x12 x13 w =>
 callS Tryz.prog 13 #[(.agg #[(.int .i64 x11), (.int .i64 x12), (.int .i64 x13)])] [(.one .slc)] (fun r14 w =>
 cond (decide (s9.2 < (r14.len : Int)))
 (semS Tryz.prog (Instr.loadAt 51 (.pointer (some x4))) (.agg [(.int .i64), (.int .i64), (.int .i64)]) (fun x15 x16 x17 w =>
 semS Tryz.prog (Instr.loadAt 68 (.pointer (some x5))) (.agg [(.int .i64), (.int .i64)]) (fun x18 x19 w =>
 callS Tryz.prog 68 #[(.agg #[(.int .i64 x15), (.int .i64 x16), (.int .i64 x17)]), (.agg #[(.int .i64 x18), (.int .i64 x19)])] [(.agg [(.int .i64), (.int .i64)]), (.one (.int .i64))] (fun r20 r21 r22 w =>
 semU Tryz.prog (Instr.storeAt 68 (.pointer (some x5)) (.agg #[(.int .i64 r20), (.int .i64 r21)])) (fun w =>
 semS Tryz.prog (Instr.loadAt 68 (.pointer (some x5))) (.agg [(.int .i64), (.int .i64)]) (fun x23 x24 w =>
 semS Tryz.prog (Instr.buildSlice 44 1 #[(0, (.agg #[(.int .i64 x23), (.int .i64 x24)]))]) (.one .slc) (fun x25 w =>
 semS Tryz.prog (Builtin.append_ #[44, 44] 44 #[(.slice s9.1.a s9.1.len s9.1.cap), (.slice x25.a x25.len x25.cap)]) (.one .slc) (fun r26 w =>
 again10 (r26, IntKind.wrap .i64 (s9.2 + 1)) w) w) w) w) w) w) w) w)
 (K s9.1 w)) w) w) (x8, 1) w) w) w) w) w) w) w) w
theorem f37_ok {p0 : Option Addr} {p1 : Int} {K : Sl → World → Prop} {w : World} (h : f37 p0 p1 K w) : callS Tryz.prog 37 #[(.pointer p0), (.int .i64 p1)] [(.one .slc)] K w :=
 calls_of_fn (args := [(.pointer p0), (.int .i64 p1)]) Tryz.f37 [] [] [] (.two .nil (.two .nil (.two .nil (.two .nil (.two (.two .nil (.one (.loop [(7, .slc), (8, (.int .i64))] .nil))) .nil))))) (by kernel_rfl) (by kernel_rfl)
 (Eq.mp (by kernel_rfl) h)

/-- (*sallyport/sallyportref17.R).known -/
def f38 (p0 : Option Addr) (p1_0 : Int) (p1_1 : Int) (K : Int → World → Prop) (w : World) : Prop :=
 semS Tryz.prog (Instr.box 68 (.agg #[(.int .i64 p1_0), (.int .i64 p1_1)])) (.one .adr) (fun x1 w =>
 loopS (σ := Int) (fun x2 w again3 =>
 nilS p0 fun a4 =>
 semS Tryz.prog (Instr.loadAt 44 (.pointer (some (a4.add 13)))) (.one .slc) (fun x5 w =>
 cond (decide (x2 < (x5.len : Int)))
 (drawS w fun C w =>
 nilS p0 fun a6 =>
 semQ Tryz.prog C (Instr.loadAt 44 (.pointer (some (a6.add 13)))) (.one .slc) (fun x7 =>
 semQ Tryz.prog C (Instr.indexAt 44 (.slice x7.a x7.len x7.cap) (.int .i64 x2)) (.one .adr) (fun x8 =>
 semQ Tryz.prog C (Instr.loadAt 68 (.pointer (some x8))) (.agg [(.int .i64), (.int .i64)]) (fun x9 x10 =>
 semQ Tryz.prog C (Instr.loadAt 68 (.pointer (some x1))) (.agg [(.int .i64), (.int .i64)]) (fun x11 x12 =>
 semQ Tryz.prog C (binS .eql 68 (.tmp 21) (.tmp 22) (.agg #[(.int .i64 x9), (.int .i64 x10)]) (.agg #[(.int .i64 x11), (.int .i64 x12)])) (.one .bool) (fun x13 =>
 cond x13
 (K x2 w)
 (again3 (IntKind.wrap .i64 (x2 + 1)) w)))))))
 (K (-1) w)) w) 0 w) w
theorem f38_ok {p0 : Option Addr} {p1_0 : Int} {p1_1 : Int} {K : Int → World → Prop} {w : World} (h : f38 p0 p1_0 p1_1 K w) : callS Tryz.prog 38 #[(.pointer p0), (.agg #[(.int .i64 p1_0), (.int .i64 p1_1)])] [(.one (.int .i64))] K w :=
 calls_of_fn (args := [(.pointer p0), (.agg #[(.int .i64 p1_0), (.int .i64 p1_1)])]) Tryz.f38 [] [] [] (.two .nil (.two (.two .nil (.one (.loop [(5, (.int .i64))] (.two .nil (.two (.one (.two (.draw [0, 1, 3, 7, 0, 31, 63, 0, 255]) .nil)) .nil))))) .nil)) (by kernel_rfl) (by kernel_rfl)
 (Eq.mp (by kernel_rfl) h)

/-- sallyport/sallyportref15.part -/
def f88 (p0 : Sl) (p1 : ByteArray) (K : Int → World → Prop) (w : World) : Prop :=
 loopS (σ := Int) (fun x1 w again2 =>
 cond (decide (x1 < (p0.len : Int)))
 (semS Tryz.prog (Instr.indexAt 40 (.slice p0.a p0.len p0.cap) (.int .i64 x1)) (.one .adr) (fun x3 w =>
 semS Tryz.prog (Instr.loadAt 9 (.pointer (some (x3.add 0)))) (.one .str) (fun x4 w =>
 cond (x4.toList == p1.toList)
 (K x1 w)
 (again2 (IntKind.wrap .i64 (x1 + 1)) w)) w) w)
 (K (-1) w)) 0 w
theorem f88_ok {p0 : Sl} {p1 : ByteArray} {K : Int → World → Prop} {w : World} (h : f88 p0 p1 K w) : callS Tryz.prog 88 #[(.slice p0.a p0.len p0.cap), (.string p1)] [(.one (.int .i64))] K w :=
 calls_of_fn (args := [(.slice p0.a p0.len p0.cap), (.string p1)]) Tryz.f88 [] [] [] (.two .nil (.two (.two .nil (.one (.loop [(5, (.int .i64))] .nil))) .nil)) (by kernel_rfl) (by kernel_rfl)
 (Eq.mp (by kernel_rfl) h)

/-- sallyport/sallyportref15.Read -/
def f69 (p0 : Sl) (p1 : ByteArray) (p2 : Int) (p3 : Int) (K : Sl → Int → World → Prop) (w : World) : Prop :=
 callS Tryz.prog 88 #[(.slice p0.a p0.len p0.cap), (.string p1)] [(.one (.int .i64))] (fun r1 w =>
 cond (decide (r1 < 0))
 (K (⟨none, 0, 0⟩) 40 w)
 (semS Tryz.prog (Instr.indexAt 40 (.slice p0.a p0.len p0.cap) (.int .i64 r1)) (.one .adr) (fun x2 w =>
 semS Tryz.prog (Instr.loadAt 38 (.pointer (some x2))) (.agg [.str, .slc, .slc]) (fun x3 x4 x5 w =>
 semS Tryz.prog (Instr.alloc 38 true (.tuple #[])) (.one .adr) (fun x6 w =>
 semU Tryz.prog (Instr.storeAt 38 (.pointer (some x6)) (.agg #[(.string x3), (.slice x4.a x4.len x4.cap), (.slice x5.a x5.len x5.cap)])) (fun w =>
 joinS (σ := Bool) (fun b7 w =>
 joinS (σ := Bool) (fun b9 w =>
 cond b9
 (K (⟨none, 0, 0⟩) 10 w)
 (loopS (σ := Int) (fun x11 w again12 =>
 cond (decide (x11 < (IntKind.wrap .i64 (p2 + p3))))
 (semS Tryz.prog (Instr.loadAt 36 (.pointer (some (x6.add 2)))) (.one .slc) (fun x13 w =>
 semS Tryz.prog (Instr.indexAt 36 (.slice x13.a x13.len x13.cap) (.int .i64 (IntKind.wrap .i64 (Int.tdiv x11 64)))) (.one .adr) (fun x14 w =>
 semS Tryz.prog (Instr.loadAt 4 (.pointer (some x14))) (.one .bool) (fun x15 w =>
 cond x15
 (K (⟨none, 0, 0⟩) 41 w)
 (again12 (IntKind.wrap .i64 (x11 + 1)) w)) w) w) w)
 (semS Tryz.prog (Instr.loadAt 22 (.pointer (some (x6.add 1)))) (.one .slc) (fun x16 w =>
 semS Tryz.prog (Instr.sliceAt 22 (.slice x16.a x16.len x16.cap) (some (.int .i64 p2)) (some (.int .i64 (IntKind.wrap .i64 (p2 + p3)))) none) (.one .slc) (fun x17 w =>
 K x17 0 w) w) w)) p2 w)) fun J10 =>
 cond b7
 (J10 true w)
 (semS Tryz.prog (Instr.loadAt 22 (.pointer (some (x6.add 1)))) (.one .slc) (fun x18 w =>
 J10 (decide (p2 > (IntKind.wrap .i64 ((x18.len : Int) - p3)))) w) w)) fun J8 =>
 cond (decide (p2 < 0))
 (J8 true w)
 (semS Tryz.prog (Instr.loadAt 22 (.pointer (some (x6.add 1)))) (.one .slc) (fun x19 w =>
 J8 (decide (p3 > (x19.len : Int))) w) w)) w) w) w) w)) w
theorem f69_ok {p0 : Sl} {p1 : ByteArray} {p2 : Int} {p3 : Int} {K : Sl → Int → World → Prop} {w : World} (h : f69 p0 p1 p2 p3 K w) : callS Tryz.prog 69 #[(.slice p0.a p0.len p0.cap), (.string p1), (.int .i64 p2), (.int .i64 p3)] [(.one .slc), (.one (.int .i64))] K w :=
 calls_of_fn (args := [(.slice p0.a p0.len p0.cap), (.string p1), (.int .i64 p2), (.int .i64 p3)]) Tryz.f69 [] [] [] (.two .nil (.two .nil (.two .nil (.two .nil (.two .nil (.two (.two .nil (.one (.loop [(12, (.int .i64))] .nil))) .nil)))))) (by kernel_rfl) (by kernel_rfl)
 (Eq.mp (by kernel_rfl) h)

/-- (sallyport/sallyportref08.Shape).Offset -/
def f70 (p0_0 : Int) (p0_1 : Int) (p0_2 : Int) (p1_0 : Int) (p1_1 : Int) (K : Int → World → Prop) (w : World) : Prop :=
 semS Tryz.prog (Instr.box 51 (.agg #[(.int .i64 p0_0), (.int .i64 p0_1), (.int .i64 p0_2)])) (.one .adr) (fun x1 w =>
 semS Tryz.prog (Instr.box 68 (.agg #[(.int .i64 p1_0), (.int .i64 p1_1)])) (.one .adr) (fun x2 w =>
 semS Tryz.prog (Instr.loadAt 51 (.pointer (some x1))) (.agg [(.int .i64), (.int .i64), (.int .i64)]) (fun x3 x4 x5 w =>
 callS Tryz.prog 13 #[(.agg #[(.int .i64 x3), (.int .i64 x4), (.int .i64 x5)])] [(.one .slc)] (fun r6 w =>
 loopS (σ := Int × Int) (fun s7 w again8 =>
 semS Tryz.prog (Instr.loadAt 3 (.pointer (some (x2.add 1)))) (.one (.int .i64)) (fun x9 w =>
 cond (decide (s7.2 > x9))
 (semS Tryz.prog (Instr.indexAt 49 (.slice r6.a r6.len r6.cap) (.int .i64 s7.2)) (.one .adr) (fun x10 w =>
 semS Tryz.prog (Instr.loadAt 3 (.pointer (some x10))) (.one (.int .i64)) (fun x11 w =>
 again8 (IntKind.wrap .i64 (s7.1 + x11), IntKind.wrap .i64 (s7.2 - 1)) w) w) w)
 (semS Tryz.prog (Instr.loadAt 3 (.pointer (some (x2.add 0)))) (.one (.int .i64)) (fun x12 w =>
 semS Tryz.prog (Instr.loadAt 3 (.pointer (some (x1.add 1)))) (.one (.int .i64)) (fun x13 w =>
 K (IntKind.wrap .i64 ((IntKind.wrap .i64 (s7.1 + x12)) * x13)) w) w) w)) w) (0, IntKind.wrap .i64 ((r6.len : Int) - 1)) w) w) w) w) w
theorem f70_ok {p0_0 : Int} {p0_1 : Int} {p0_2 : Int} {p1_0 : Int} {p1_1 : Int} {K : Int → World → Prop} {w : World} (h : f70 p0_0 p0_1 p0_2 p1_0 p1_1 K w) : callS Tryz.prog 70 #[(.agg #[(.int .i64 p0_0), (.int .i64 p0_1), (.int .i64 p0_2)]), (.agg #[(.int .i64 p1_0), (.int .i64 p1_1)])] [(.one (.int .i64))] K w :=
 calls_of_fn (args := [(.agg #[(.int .i64 p0_0), (.int .i64 p0_1), (.int .i64 p0_2)]), (.agg #[(.int .i64 p1_0), (.int .i64 p1_1)])]) Tryz.f70 [] [] [] (.two .nil (.two .nil (.two .nil (.two (.two .nil (.one (.loop [(6, (.int .i64)), (7, (.int .i64))] .nil))) .nil)))) (by kernel_rfl) (by kernel_rfl)
 (Eq.mp (by kernel_rfl) h)

/-- (*sallyport/sallyportref17.R).fetch -/
def f39 (p0 : Option Addr) (p1 : Sl) (p2_0 : Int) (p2_1 : Int) (K : Sl → Int → World → Prop) (w : World) : Prop :=
 semS Tryz.prog (Instr.box 68 (.agg #[(.int .i64 p2_0), (.int .i64 p2_1)])) (.one .adr) (fun x1 w =>
 callS Tryz.prog 12 #[(.pointer p0)] [(.agg [(.int .i64), (.int .i64), (.int .i64)])] (fun r2 r3 r4 w =>
 semS Tryz.prog (Instr.alloc 51 true (.tuple #[])) (.one .adr) (fun x5 w =>
 semU Tryz.prog (Instr.storeAt 51 (.pointer (some x5)) (.agg #[(.int .i64 r2), (.int .i64 r3), (.int .i64 r4)])) (fun w =>
 semS Tryz.prog (Instr.loadAt 3 (.pointer (some (x1.add 1)))) (.one (.int .i64)) (fun x6 w =>
 cond (decide (x6 > 0))
 (drawS w fun C w =>
 nilS p0 fun a7 =>
 semQ Tryz.prog C (Instr.loadAt 9 (.pointer (some (a7.add 0)))) (.one .str) (fun x8 =>
 nilS p0 fun a9 =>
 semQ Tryz.prog C (Instr.loadAt 3 (.pointer (some ((a9.add 1).add 4)))) (.one (.int .i64)) (fun x10 =>
 semQ Tryz.prog C (Instr.loadAt 51 (.pointer (some x5))) (.agg [(.int .i64), (.int .i64), (.int .i64)]) (fun x11 x12 x13 =>
 semQ Tryz.prog C (Instr.loadAt 68 (.pointer (some x1))) (.agg [(.int .i64), (.int .i64)]) (fun x14 x15 =>
 semQ Tryz.prog C (Instr.loadAt 3 (.pointer (some (x5.add 1)))) (.one (.int .i64)) (fun x16 =>
 callS Tryz.prog 70 #[(.agg #[(.int .i64 x11), (.int .i64 x12), (.int .i64 x13)]), (.agg #[(.int .i64 x14), (.int .i64 x15)])] [(.one (.int .i64))] (fun r17 w =>
 moreS C w (fun C =>
 callS Tryz.prog 69 #[(.slice p1.a p1.len p1.cap), (.string x8), (.int .i64 (IntKind.wrap .i64 (x10 + r17))), (.int .i64 x16)] [(.one .slc), (.one (.int .i64))] (fun r18 r19 w =>
 semS Tryz.prog (Instr.buildSlice 22 0 #[]) (.one .slc) (fun x20 w =>
 semS Tryz.prog (Builtin.append_ #[22, 22] 22 #[(.slice x20.a x20.len x20.cap), (.slice r18.a r18.len r18.cap)]) (.one .slc) (fun r21 w =>
 K r21 r19 w) w) w) w)) w))))))
 (semS Tryz.prog (Instr.loadAt 3 (.pointer (some (x5.add 0)))) (.one (.int .i64)) (fun x22 w =>
 semS Tryz.prog (Instr.loadAt 3 (.pointer (some (x1.add 0)))) (.one (.int .i64)) (fun x23 w =>
 semS Tryz.prog (Instr.loadAt 3 (.pointer (some (x5.add 1)))) (.one (.int .i64)) (fun x24 w =>
 joinS (σ := Int) (fun x25 w =>
 drawS w fun C w =>
 nilS p0 fun a27 =>
 semQ Tryz.prog C (Instr.loadAt 9 (.pointer (some (a27.add 0)))) (.one .str) (fun x28 =>
 semQ Tryz.prog C (Instr.loadAt 3 (.pointer (some (x1.add 0)))) (.one (.int .i64)) (fun x29 =>
 semQ Tryz.prog C (Instr.loadAt 3 (.pointer (some (x5.add 1)))) (.one (.int .i64)) (fun x30 =>
 callS Tryz.prog 69 #[(.slice p1.a p1.len p1.cap), (.string x28), (.int .i64 (IntKind.wrap .i64 (x29 * x30))), (.int .i64 x25)] [(.one .slc), (.one (.int .i64))] (fun r31 r32 w =>
 cond (r32 != 0)
 (K (⟨none, 0, 0⟩) r32 w)
 (semS Tryz.prog (Instr.loadAt 3 (.pointer (some (x5.add 1)))) (.one (.int .i64)) (fun x33 w =>
 semS Tryz.prog (Instr.makeSlice 22 (.int .i64 x33) (.int .i64 x33)) (.one .slc) (fun x34 w =>
 loopS (σ := Int) (fun x35 w again36 =>
 cond (decide (x35 < (r31.len : Int)))
 (semS Tryz.prog (Instr.indexAt 22 (.slice r31.a r31.len r31.cap) (.int .i64 x35)) (.one .adr) (fun x37 w =>
 semS Tryz.prog (Instr.loadAt 5 (.pointer (some x37))) (.one (.int .u8)) (fun x38 w =>
 semS Tryz.prog (Instr.indexAt 22 (.slice x34.a x34.len x34.cap) (.int .i64 x35)) (.one .adr) (fun x39 w =>
 semU Tryz.prog (Instr.storeAt 5 (.pointer (some x39)) (.int .u8 x38)) (fun w =>
 again36 (IntKind.wrap .i64 (x35 + 1)) w) w) w) w) w)
 (K x34 0 w)) 0 w) w) w)) w)))) fun J26 =>
 semS Tryz.prog (Instr.loadAt 3 (.pointer (some (x5.add 1)))) (.one (.int .i64)) (fun x40 w =>
 cond (decide ((IntKind.wrap .i64 (x22 - (IntKind.wrap .i64 (x23 * x24)))) > x40))
 (semS Tryz.prog (Instr.loadAt 3 (.pointer (some (x5.add 1)))) (.one (.int .i64)) (fun x41 w =>
 J26 x41 w) w)
 (J26 (IntKind.wrap .i64 (x22 - (IntKind.wrap .i64 (x23 * x24)))) w)) w) w) w) w)) w) w) w) w) w
theorem f39_ok {p0 : Option Addr} {p1 : Sl} {p2_0 : Int} {p2_1 : Int} {K : Sl → Int → World → Prop} {w : World} (h : f39 p0 p1 p2_0 p2_1 K w) : callS Tryz.prog 39 #[(.pointer p0), (.slice p1.a p1.len p1.cap), (.agg #[(.int .i64 p2_0), (.int .i64 p2_1)])] [(.one .slc), (.one (.int .i64))] K w :=
 calls_of_fn (args := [(.pointer p0), (.slice p1.a p1.len p1.cap), (.agg #[(.int .i64 p2_0), (.int .i64 p2_1)])]) Tryz.f39 [] [] [] (.two .nil (.two .nil (.two (.two .nil (.two (.two (.draw [0, 0, 2, 6, 14, 0, 32, 96, 224, 480, 0, 0, 3072, 8160, 0, 16384, 65535, 131071, 262143, 262143, 524287, 2097151]) .nil) .nil)) (.two .nil (.join [(11, (.int .i64))] .nil (.two (.draw [0, 0, 2, 6, 14, 0, 32, 0, 128, 480, 0, 2047, 4095, 8191, 8191, 16383, 65535]) (.two .nil (.two .nil (.two (.two .nil (.one (.loop [(15, (.int .i64))] .nil))) .nil))))))))) (by kernel_rfl) (by kernel_rfl)
 (Eq.mp (by kernel_rfl) h)

/-- sallyport/sallyportref02.padded -/
def f96 (p0 : Sl) (K : Sl → World → Prop) (w : World) : Prop :=
 semS Tryz.prog (Instr.buildSlice 22 0 #[]) (.one .slc) (fun x1 w =>
 semS Tryz.prog (Builtin.append_ #[22, 22] 22 #[(.slice x1.a x1.len x1.cap), (.slice p0.a p0.len p0.cap)]) (.one .slc) (fun r2 w =>
 semS Tryz.prog (Instr.buildSlice 22 1 #[(0, (.int .u8 128))]) (.one .slc) (fun x3 w =>
 semS Tryz.prog (Builtin.append_ #[22, 22] 22 #[(.slice r2.a r2.len r2.cap), (.slice x3.a x3.len x3.cap)]) (.one .slc) (fun r4 w =>
 loopS (σ := Sl) (fun x5 w again6 =>
 cond ((Int.tmod (x5.len : Int) 64) != 56)
 (semS Tryz.prog (Instr.buildSlice 22 1 #[(0, (.int .u8 0))]) (.one .slc) (fun x7 w =>
 semS Tryz.prog (Builtin.append_ #[22, 22] 22 #[(.slice x5.a x5.len x5.cap), (.slice x7.a x7.len x7.cap)]) (.one .slc) (fun r8 w =>
 again6 r8 w) w) w)
 (loopS (σ := Sl × Int) (fun s9 w again10 =>
 cond (decide (s9.2 ≥ 0))
 (semS Tryz.prog (binS .shr 162 (.tmp 28) (.tmp 30) (.int .u64 (IntKind.wrap .u64 ((IntKind.wrap .u64 (p0.len : Int)) * 8))) (.int .i64 (IntKind.wrap .i64 (8 * s9.2)))) (.one (.int .u64)) (fun x11 w =>
 semS Tryz.prog (Instr.buildSlice 22 1 #[(0, (.int .u8 (IntKind.wrap .u8 x11)))]) (.one .slc) (fun x12 w =>
 semS Tryz.prog (Builtin.append_ #[22, 22] 22 #[(.slice s9.1.a s9.1.len s9.1.cap), (.slice x12.a x12.len x12.cap)]) (.one .slc) (fun r13 w =>
 again10 (r13, IntKind.wrap .i64 (s9.2 - 1)) w) w) w) w)
 (K s9.1 w)) (x5, 7) w)) r4 w) w) w) w) w
theorem f96_ok {p0 : Sl} {K : Sl → World → Prop} {w : World} (h : f96 p0 K w) : callS Tryz.prog 96 #[(.slice p0.a p0.len p0.cap)] [(.one .slc)] K w :=
 calls_of_fn (args := [(.slice p0.a p0.len p0.cap)]) Tryz.f96 [] [] [] (.two .nil (.two .nil (.two .nil (.two (.one (.loop [(3, .slc)] .nil)) (.two .nil (.two (.two .nil (.one (.loop [(3, .slc), (5, (.int .i64))] .nil))) .nil)))))) (by kernel_rfl) (by kernel_rfl)
 (Eq.mp (by kernel_rfl) h)

/-- sallyport/sallyportref02.right -/
def f107 (p0 : Int) (p1 : Int) (K : Int → World → Prop) (w : World) : Prop :=
 drawS w fun C w =>
 semQ Tryz.prog C (binS .shr 159 (.tmp 5) (.tmp 6) (.int .u32 p0) (.int .i64 p1)) (.one (.int .u32)) (fun x1 =>
 semQ Tryz.prog C (binS .shl 159 (.tmp 8) (.tmp 10) (.int .u32 p0) (.int .i64 (IntKind.wrap .i64 (32 - p1)))) (.one (.int .u32)) (fun x2 =>
 K (orI .u32 x1 x2) w))
theorem f107_ok {p0 : Int} {p1 : Int} {K : Int → World → Prop} {w : World} (h : f107 p0 p1 K w) : callS Tryz.prog 107 #[(.int .u32 p0), (.int .i64 p1)] [(.one (.int .u32))] K w :=
 calls_of_fn (args := [(.int .u32 p0), (.int .i64 p1)]) Tryz.f107 [] [] [] (.two .nil (.two (.draw [0, 0, 3, 0, 0, 16, 56, 127, 255]) .nil)) (by kernel_rfl) (by kernel_rfl)
 (Eq.mp (by kernel_rfl) h)

/-- sallyport/sallyportref02.words -/
def f105 (p0 : Sl) (K : Sl → World → Prop) (w : World) : Prop :=
 loopS (σ := Sl × Int) (fun s1 w again2 =>
 cond (decide (s1.2 < 16))
 (loopS (σ := Int × Int) (fun s3 w again4 =>
 cond (decide (s3.2 < 4))
 (semS Tryz.prog (Instr.indexAt 22 (.slice p0.a p0.len p0.cap) (.int .i64 (IntKind.wrap .i64 ((IntKind.wrap .i64 (4 * s1.2)) + s3.2)))) (.one .adr) (fun x5 w =>
 semS Tryz.prog (Instr.loadAt 5 (.pointer (some x5))) (.one (.int .u8)) (fun x6 w =>
 again4 (IntKind.wrap .u32 ((IntKind.wrap .u32 (s3.1 * 256)) + (IntKind.wrap .u32 x6)), IntKind.wrap .i64 (s3.2 + 1)) w) w) w)
 (semS Tryz.prog (Instr.buildSlice 160 1 #[(0, (.int .u32 s3.1))]) (.one .slc) (fun x7 w =>
 semS Tryz.prog (Builtin.append_ #[160, 160] 160 #[(.slice s1.1.a s1.1.len s1.1.cap), (.slice x7.a x7.len x7.cap)]) (.one .slc) (fun r8 w =>
 again2 (r8, IntKind.wrap .i64 (s1.2 + 1)) w) w) w)) (0, 0) w)
 (loopS (σ := Sl × Int) (fun s9 w again10 =>
 cond (decide (s9.2 < 64))
 (drawS w fun C w =>
 semQ Tryz.prog C (Instr.indexAt 160 (.slice s9.1.a s9.1.len s9.1.cap) (.int .i64 (IntKind.wrap .i64 (s9.2 - 15)))) (.one .adr) (fun x11 =>
 semQ Tryz.prog C (Instr.loadAt 159 (.pointer (some x11))) (.one (.int .u32)) (fun x12 =>
 semQ Tryz.prog C (Instr.indexAt 160 (.slice s9.1.a s9.1.len s9.1.cap) (.int .i64 (IntKind.wrap .i64 (s9.2 - 15)))) (.one .adr) (fun x13 =>
 semQ Tryz.prog C (Instr.loadAt 159 (.pointer (some x13))) (.one (.int .u32)) (fun x14 =>
 semQ Tryz.prog C (Instr.indexAt 160 (.slice s9.1.a s9.1.len s9.1.cap) (.int .i64 (IntKind.wrap .i64 (s9.2 - 15)))) (.one .adr) (fun x15 =>
 semQ Tryz.prog C (Instr.loadAt 159 (.pointer (some x15))) (.one (.int .u32)) (fun x16 =>
 callS Tryz.prog 107 #[(.int .u32 x12), (.int .i64 7)] [(.one (.int .u32))] (fun r17 w =>
 moreS C w (fun C =>
 callS Tryz.prog 107 #[(.int .u32 x14), (.int .i64 18)] [(.one (.int .u32))] (fun r18 w =>
 moreS C w (fun C =>
 drawS w fun C w =>
 semQ Tryz.prog C (Instr.indexAt 160 (.slice s9.1.a s9.1.len s9.1.cap) (.int .i64 (IntKind.wrap .i64 (s9.2 - 2)))) (.one .adr) (fun x19 =>
 semQ Tryz.prog C (Instr.loadAt 159 (.pointer (some x19))) (.one (.int .u32)) (fun x20 =>
 semQ Tryz.prog C (Instr.indexAt 160 (.slice s9.1.a s9.1.len s9.1.cap) (.int .i64 (IntKind.wrap .i64 (s9.2 - 2)))) (.one .adr) (fun x21 =>
 semQ Tryz.prog C (Instr.loadAt 159 (.pointer (some x21))) (.one (.int .u32)) (fun x22 =>
 semQ Tryz.prog C (Instr.indexAt 160 (.slice s9.1.a s9.1.len s9.1.cap) (.int .i64 (IntKind.wrap .i64 (s9.2 - 2)))) (.one .adr) (fun x23 =>
 semQ Tryz.prog C (Instr.loadAt 159 (.pointer (some x23))) (.one (.int .u32)) (fun x24 =>
 callS Tryz.prog 107 #[(.int .u32 x20), (.int .i64 17)] [(.one (.int .u32))] (fun r25 w =>
 moreS C w (fun C =>
 callS Tryz.prog 107 #[(.int .u32 x22), (.int .i64 19)] [(.one (.int .u32))] (fun r26 w =>
 moreS C w (fun C =>
 drawS w fun C w =>
 semQ Tryz.prog C (Instr.indexAt 160 (.slice s9.1.a s9.1.len s9.1.cap) (.int .i64 (IntKind.wrap .i64 (s9.2 - 16)))) (.one .adr) (fun x27 =>
 semQ Tryz.prog C (Instr.loadAt 159 (.pointer (some x27))) (.one (.int .u32)) (fun x28 =>
 semQ Tryz.prog C (Instr.indexAt 160 (.slice s9.1.a s9.1.len s9.1.cap) (.int .i64 (IntKind.wrap .i64 (s9.2 - 7)))) (.one .adr) (fun x29 =>
 semQ Tryz.prog C (Instr.loadAt 159 (.pointer (some x29))) (.one (.int .u32)) (fun x30 =>
 semS Tryz.prog (Instr.buildSlice 160 1 #[(0, (.int .u32 (IntKind.wrap .u32 ((IntKind.wrap .u32 ((IntKind.wrap .u32 (x28 + (xorI .u32 (xorI .u32 r17 r18) (shrI .u32 x16 3)))) + x30)) + (xorI .u32 (xorI .u32 r25 r26) (shrI .u32 x24 10))))))]) (.one .slc) (fun x31 w =>
 semS Tryz.prog (Builtin.append_ #[160, 160] 160 #[(.slice s9.1.a s9.1.len s9.1.cap), (.slice x31.a x31.len x31.cap)]) (.one .slc) (fun r32 w =>
 again10 (r32, IntKind.wrap .i64 (s9.2 + 1)) w) w) w)))))) w)) w)))))))) w)) w)))))))
 (K s9.1 w)) (s1.1, 16) w)) (⟨none, 0, 0⟩, 0) w
theorem f105_ok {p0 : Sl} {K : Sl → World → Prop} {w : World} (h : f105 p0 K w) : callS Tryz.prog 105 #[(.slice p0.a p0.len p0.cap)] [(.one .slc)] K w :=
 calls_of_fn (args := [(.slice p0.a p0.len p0.cap)]) Tryz.f105 [] [] [] (.two .nil (.two .nil (.two (.two .nil (.one (.loop [(3, .slc), (4, (.int .i64))] (.two .nil (.two (.one (.two .nil (.two (.two .nil (.one (.loop [(5, (.int .u32)), (6, (.int .i64))] .nil))) .nil))) .nil))))) (.two (.two .nil (.one (.loop [(3, .slc), (7, (.int .i64))] (.two .nil (.two (.one (.two (.draw [0, 0, 2, 7, 15, 31, 0, 0, 128, 448, 960, 2047, 4095, 0, 0, 16384, 57344, 122880, 253952, 524287, 1048575]) (.two (.draw [0, 0, 2, 7, 15, 31, 0, 0, 128, 448, 960, 2047, 4095, 0, 0, 16384, 57344, 122880, 253952, 524287, 1048575]) (.draw [0, 0, 0, 4, 14, 30, 0, 126, 0, 0, 512, 1792, 3840, 8190, 0, 32766, 65534, 131071, 262143])))) .nil))))) .nil)))) (by kernel_rfl) (by kernel_rfl)
 (Eq.mp (by kernel_rfl) h)

/-- sallyport/sallyportref02.constants -/
def f106  (K : Sl → World → Prop) (w : World) : Prop :=
 semS Tryz.prog (Instr.buildSlice 160 64 #[(0, (.int .u32 1116352408)), (1, (.int .u32 1899447441)), (2, (.int .u32 3049323471)), (3, (.int .u32 3921009573)), (4, (.int .u32 961987163)), (5, (.int .u32 1508970993)), (6, (.int .u32 2453635748)), (7, (.int .u32 2870763221)), (8, (.int .u32 3624381080)), (9, (.int .u32 310598401)), (10, (.int .u32 607225278)), (11, (.int .u32 1426881987)), (12, (.int .u32 1925078388)), (13, (.int .u32 2162078206)), (14, (.int .u32 2614888103)), (15, (.int .u32 3248222580)), (16, (.int .u32 3835390401)), (17, (.int .u32 4022224774)), (18, (.int .u32 264347078)), (19, (.int .u32 604807628)), (20, (.int .u32 770255983)), (21, (.int .u32 1249150122)), (22, (.int .u32 1555081692)), (23, (.int .u32 1996064986)), (24, (.int .u32 2554220882)), (25, (.int .u32 2821834349)), (26, (.int .u32 2952996808)), (27, (.int .u32 3210313671)), (28, (.int .u32 3336571891)), (29, (.int .u32 3584528711)), (30, (.int .u32 113926993)), (31, (.int .u32 338241895)), (32, (.int .u32 666307205)), (33, (.int .u32 773529912)), (34, (.int .u32 1294757372)), (35, (.int .u32 1396182291)), (36, (.int .u32 1695183700)), (37, (.int .u32 1986661051)), (38, (.int .u32 2177026350)), (39, (.int .u32 2456956037)), (40, (.int .u32 2730485921)), (41, (.int .u32 2820302411)), (42, (.int .u32 3259730800)), (43, (.int .u32 3345764771)), (44, (.int .u32 3516065817)), (45, (.int .u32 3600352804)), (46, (.int .u32 4094571909)), (47, (.int .u32 275423344)), (48, (.int .u32 430227734)), (49, (.int .u32 506948616)), (50, (.int .u32 659060556)), (51, (.int .u32 883997877)), (52, (.int .u32 958139571)), (53, (.int .u32 1322822218)), (54, (.int .u32 1537002063)), (55, (.int .u32 1747873779)), (56, (.int .u32 1955562222)), (57, (.int .u32 2024104815)), (58, (.int .u32 2227730452)), (59, (.int .u32 2361852424)), (60, (.int .u32 2428436474)), (61, (.int .u32 2756734187)), (62, (.int .u32 3204031479)), (63, (.int .u32 3329325298))]) (.one .slc) (fun x1 w =>
 K x1 w) w
theorem f106_ok  {K : Sl → World → Prop} {w : World} (h : f106  K w) : callS Tryz.prog 106 #[] [(.one .slc)] K w :=
 calls_of_fn (args := []) Tryz.f106 [] [] [] .nil (by kernel_rfl) (by kernel_rfl)
 (Eq.mp (by kernel_rfl) h)

/-- sallyport/sallyportref02.block -/
def f97 (p0 : Sl) (p1 : Sl) (K : Sl → World → Prop) (w : World) : Prop :=
 callS Tryz.prog 105 #[(.slice p1.a p1.len p1.cap)] [(.one .slc)] (fun r1 w =>
 callS Tryz.prog 106 #[] [(.one .slc)] (fun r2 w =>
 semS Tryz.prog (Instr.buildSlice 160 0 #[]) (.one .slc) (fun x3 w =>
 semS Tryz.prog (Builtin.append_ #[160, 160] 160 #[(.slice x3.a x3.len x3.cap), (.slice p0.a p0.len p0.cap)]) (.one .slc) (fun r4 w =>
 loopS (σ := Sl × Int) (fun s5 w again6 =>
 cond (decide (s5.2 < 64))
 (drawS w fun C w =>
 semQ Tryz.prog C (Instr.indexAt 160 (.slice s5.1.a s5.1.len s5.1.cap) (.int .i64 4)) (.one .adr) (fun x7 =>
 semQ Tryz.prog C (Instr.loadAt 159 (.pointer (some x7))) (.one (.int .u32)) (fun x8 =>
 semQ Tryz.prog C (Instr.indexAt 160 (.slice s5.1.a s5.1.len s5.1.cap) (.int .i64 4)) (.one .adr) (fun x9 =>
 semQ Tryz.prog C (Instr.loadAt 159 (.pointer (some x9))) (.one (.int .u32)) (fun x10 =>
 semQ Tryz.prog C (Instr.indexAt 160 (.slice s5.1.a s5.1.len s5.1.cap) (.int .i64 4)) (.one .adr) (fun x11 =>
 semQ Tryz.prog C (Instr.loadAt 159 (.pointer (some x11))) (.one (.int .u32)) (fun x12 =>
 callS Tryz.prog 107 #[(.int .u32 x8), (.int .i64 6)] [(.one (.int .u32))] (fun r13 w =>
 moreS C w (fun C =>
 callS Tryz.prog 107 #[(.int .u32 x10), (.int .i64 11)] [(.one (.int .u32))] (fun r14 w =>
 moreS C w (fun C =>
 callS Tryz.prog 107 #[(.int .u32 x12), (.int .i64 25)] [(.one (.int .u32))] (fun r15 w =>
 drawS w fun C w =>
 semQ Tryz.prog C (Instr.indexAt 160 (.slice s5.1.a s5.1.len s5.1.cap) (.int .i64 4)) (.one .adr) (fun x16 =>
 semQ Tryz.prog C (Instr.loadAt 159 (.pointer (some x16))) (.one (.int .u32)) (fun x17 =>
 semQ Tryz.prog C (Instr.indexAt 160 (.slice s5.1.a s5.1.len s5.1.cap) (.int .i64 5)) (.one .adr) (fun x18 =>
 semQ Tryz.prog C (Instr.loadAt 159 (.pointer (some x18))) (.one (.int .u32)) (fun x19 =>
 semQ Tryz.prog C (Instr.indexAt 160 (.slice s5.1.a s5.1.len s5.1.cap) (.int .i64 4)) (.one .adr) (fun x20 =>
 semQ Tryz.prog C (Instr.loadAt 159 (.pointer (some x20))) (.one (.int .u32)) (fun x21 =>
 semQ Tryz.prog C (Instr.indexAt 160 (.slice s5.1.a s5.1.len s5.1.cap) (.int .i64 6)) (.one .adr) (fun x22 =>
 semQ Tryz.prog C (Instr.loadAt 159 (.pointer (some x22))) (.one (.int .u32)) (fun x23 =>
 drawS w fun C w =>
 semQ Tryz.prog C (Instr.indexAt 160 (.slice s5.1.a s5.1.len s5.1.cap) (.int .i64 7)) (.one .adr) (fun x24 =>
 semQ Tryz.prog C (Instr.loadAt 159 (.pointer (some x24))) (.one (.int .u32)) (fun x25 =>
 semQ Tryz.prog C (Instr.indexAt 160 (.slice r2.a r2.len r2.cap) (.int .i64 s5.2)) (.one .adr) (fun x26 =>
 semQ Tryz.prog C (Instr.loadAt 159 (.pointer (some x26))) (.one (.int .u32)) (fun x27 =>
 semQ Tryz.prog C (Instr.indexAt 160 (.slice r1.a r1.len r1.cap) (.int .i64 s5.2)) (.one .adr) (fun x28 =>
 semQ Tryz.prog C (Instr.loadAt 159 (.pointer (some x28))) (.one (.int .u32)) (fun x29 =>
 drawS w fun C w =>
 semQ Tryz.prog C (Instr.indexAt 160 (.slice s5.1.a s5.1.len s5.1.cap) (.int .i64 0)) (.one .adr) (fun x30 =>
 semQ Tryz.prog C (Instr.loadAt 159 (.pointer (some x30))) (.one (.int .u32)) (fun x31 =>
 semQ Tryz.prog C (Instr.indexAt 160 (.slice s5.1.a s5.1.len s5.1.cap) (.int .i64 0)) (.one .adr) (fun x32 =>
 semQ Tryz.prog C (Instr.loadAt 159 (.pointer (some x32))) (.one (.int .u32)) (fun x33 =>
 semQ Tryz.prog C (Instr.indexAt 160 (.slice s5.1.a s5.1.len s5.1.cap) (.int .i64 0)) (.one .adr) (fun x34 =>
 semQ Tryz.prog C (Instr.loadAt 159 (.pointer (some x34))) (.one (.int .u32)) (fun x35 =>
 callS Tryz.prog 107 #[(.int .u32 x31), (.int .i64 2)] [(.one (.int .u32))] (fun r36 w =>
 moreS C w (fun C =>
 callS Tryz.prog 107 #[(.int .u32 x33), (.int .i64 13)] [(.one (.int .u32))] (fun r37 w =>
 moreS C w (fun C =>
 callS Tryz.prog 107 #[(.int .u32 x35), (.int .i64 22)] [(.one (.int .u32))] (fun r38 w =>
 drawS w fun C w =>
 semQ Tryz.prog C (Instr.indexAt 160 (.slice s5.1.a s5.1.len s5.1.cap) (.int .i64 0)) (.one .adr) (fun x39 =>
 semQ Tryz.prog C (Instr.loadAt 159 (.pointer (some x39))) (.one (.int .u32)) (fun x40 =>
 semQ Tryz.prog C (Instr.indexAt 160 (.slice s5.1.a s5.1.len s5.1.cap) (.int .i64 1)) (.one .adr) (fun x41 =>
 semQ Tryz.prog C (Instr.loadAt 159 (.pointer (some x41))) (.one (.int .u32)) (fun x42 =>
 semQ Tryz.prog C (Instr.indexAt 160 (.slice s5.1.a s5.1.len s5.1.cap) (.int .i64 0)) (.one .adr) (fun x43 =>
 semQ Tryz.prog C (Instr.loadAt 159 (.pointer (some x43))) (.one (.int .u32)) (fun x44 =>
 semQ Tryz.prog C (Instr.indexAt 160 (.slice s5.1.a s5.1.len s5.1.cap) (.int .i64 2)) (.one .adr) (fun x45 =>
 semQ Tryz.prog C (Instr.loadAt 159 (.pointer (some x45))) (.one (.int .u32)) (fun x46 =>
 semQ Tryz.prog C (Instr.indexAt 160 (.slice s5.1.a s5.1.len s5.1.cap) (.int .i64 1)) (.one .adr) (fun x47 =>
 semQ Tryz.prog C (Instr.loadAt 159 (.pointer (some x47))) (.one (.int .u32)) (fun x48 =>
 semQ Tryz.prog C (Instr.indexAt 160 (.slice s5.1.a s5.1.len s5.1.cap) (.int .i64 2)) (.one .adr) (fun x49 =>
 semQ Tryz.prog C (Instr.loadAt 159 (.pointer (some x49))) (.one (.int .u32)) (fun x50 =>
 drawS w fun C w =>
 semQ Tryz.prog C (Instr.indexAt 160 (.slice s5.1.a s5.1.len s5.1.cap) (.int .i64 0)) (.one .adr) (fun x51 =>
 semQ Tryz.prog C (Instr.loadAt 159 (.pointer (some x51))) (.one (.int .u32)) (fun x52 =>
 semQ Tryz.prog C (Instr.indexAt 160 (.slice s5.1.a s5.1.len s5.1.cap) (.int .i64 1)) (.one .adr) (fun x53 =>
 semQ Tryz.prog C (Instr.loadAt 159 (.pointer (some x53))) (.one (.int .u32)) (fun x54 =>
 semQ Tryz.prog C (Instr.indexAt 160 (.slice s5.1.a s5.1.len s5.1.cap) (.int .i64 2)) (.one .adr) (fun x55 =>
 semQ Tryz.prog C (Instr.loadAt 159 (.pointer (some x55))) (.one (.int .u32)) (fun x56 =>
 semQ Tryz.prog C (Instr.indexAt 160 (.slice s5.1.a s5.1.len s5.1.cap) (.int .i64 3)) (.one .adr) (fun x57 =>
 semQ Tryz.prog C (Instr.loadAt 159 (.pointer (some x57))) (.one (.int .u32)) (fun x58 =>
 semQ Tryz.prog C (Instr.indexAt 160 (.slice s5.1.a s5.1.len s5.1.cap) (.int .i64 4)) (.one .adr) (fun x59 =>
 semQ Tryz.prog C (Instr.loadAt 159 (.pointer (some x59))) (.one (.int .u32)) (fun x60 =>
 semQ Tryz.prog C (Instr.indexAt 160 (.slice s5.1.a s5.1.len s5.1.cap) (.int .i64 5)) (.one .adr) (fun x61 =>
 semQ Tryz.prog C (Instr.loadAt 159 (.pointer (some x61))) (.one (.int .u32)) (fun x62 =>
 semQ Tryz.prog C (Instr.indexAt 160 (.slice s5.1.a s5.1.len s5.1.cap) (.int .i64 6)) (.one .adr) (fun x63 =>
 semQ Tryz.prog C (Instr.loadAt 159 (.pointer (some x63))) (.one (.int .u32)) (fun x64 =>
 semS Tryz.prog (Instr.buildSlice 160 8 #[(0, (.int .u32 (IntKind.wrap .u32 ((IntKind.wrap .u32 ((IntKind.wrap .u32 ((IntKind.wrap .u32 ((IntKind.wrap .u32 ((IntKind.wrap .u32 (x25 + (xorI .u32 (xorI .u32 r13 r14) r15))) + (xorI .u32 (andI .u32 x17 x19) (andI .u32 (xorI .u32 (IntKind.max .u32) x21) x23)))) + x27)) + x29)) + (xorI .u32 (xorI .u32 r36 r37) r38))) + (xorI .u32 (xorI .u32 (andI .u32 x40 x42) (andI .u32 x44 x46)) (andI .u32 x48 x50)))))), (1, (.int .u32 x52)), (2, (.int .u32 x54)), (3, (.int .u32 x56)), (4, (.int .u32 (IntKind.wrap .u32 (x58 + (IntKind.wrap .u32 ((IntKind.wrap .u32 ((IntKind.wrap .u32 ((IntKind.wrap .u32 (x25 + (xorI .u32 (xorI .u32 r13 r14) r15))) + (xorI .u32 (andI .u32 x17 x19) (andI .u32 (xorI .u32 (IntKind.max .u32) x21) x23)))) + x27)) + x29)))))), (5, (.int .u32 x60)), (6, (.int .u32 x62)), (7, (.int .u32 x64))]) (.one .slc) (fun x65 w =>
 again6 (x65, IntKind.wrap .i64 (s5.2 + 1)) w) w))))))))))))))))))))))))))) w)) w)) w))))))))))))))))))))) w)) w)) w)))))))
 (loopS (σ := Sl × Int) (fun s66 w again67 =>
 cond (decide (s66.2 < 8))
 (drawS w fun C w =>
 semQ Tryz.prog C (Instr.indexAt 160 (.slice p0.a p0.len p0.cap) (.int .i64 s66.2)) (.one .adr) (fun x68 =>
 semQ Tryz.prog C (Instr.loadAt 159 (.pointer (some x68))) (.one (.int .u32)) (fun x69 =>
 semQ Tryz.prog C (Instr.indexAt 160 (.slice s5.1.a s5.1.len s5.1.cap) (.int .i64 s66.2)) (.one .adr) (fun x70 =>
 semQ Tryz.prog C (Instr.loadAt 159 (.pointer (some x70))) (.one (.int .u32)) (fun x71 =>
 semS Tryz.prog (Instr.buildSlice 160 1 #[(0, (.int .u32 (IntKind.wrap .u32 (x69 + x71))))]) (.one .slc) (fun x72 w =>
 semS Tryz.prog (Builtin.append_ #[160, 160] 160 #[(.slice s66.1.a s66.1.len s66.1.cap), (.slice x72.a x72.len x72.cap)]) (.one .slc) (fun r73 w =>
 again67 (r73, IntKind.wrap .i64 (s66.2 + 1)) w) w) w)))))
 (K s66.1 w)) (⟨none, 0, 0⟩, 0) w)) (r4, 0) w) w) w) w) w
theorem f97_ok {p0 : Sl} {p1 : Sl} {K : Sl → World → Prop} {w : World} (h : f97 p0 p1 K w) : callS Tryz.prog 97 #[(.slice p0.a p0.len p0.cap), (.slice p1.a p1.len p1.cap)] [(.one .slc)] K w :=
 calls_of_fn (args := [(.slice p0.a p0.len p0.cap), (.slice p1.a p1.len p1.cap)]) Tryz.f97 [] [] [] (.two .nil (.two .nil (.two .nil (.two .nil (.two (.two .nil (.one (.loop [(7, .slc), (8, (.int .i64))] (.two .nil (.two (.one (.two (.draw [0, 1, 3, 7, 0, 16, 48, 127, 255, 0, 512, 1536, 3839, 8191, 16383]) (.two (.draw [0, 1, 3, 0, 8, 24, 63, 0, 128, 384, 896, 0, 2048, 6144, 16256, 32767, 65535]) (.two (.draw [0, 1, 3, 0, 15, 0, 63, 0, 0, 384, 896, 2047, 0, 0, 12288, 28672, 65535, 131071]) (.two (.draw [0, 1, 3, 7, 0, 16, 48, 127, 255, 0, 512, 1536, 3839, 8191, 16383]) (.two (.draw [0, 1, 3, 0, 8, 24, 63, 0, 128, 384, 0, 1024, 3072, 8064, 16383, 0, 32768, 98304, 0, 262144, 786432, 2064384, 4194303, 8388607]) (.draw [0, 0, 3, 0, 15, 0, 32, 96, 0, 256, 768, 0, 2048, 6144, 0, 16384, 49152, 0, 245760, 0, 524288, 1572864, 0, 4194304, 12582912, 0, 33554432, 100663296, 268435455, 536870911]))))))) .nil))))) (.two .nil (.two (.two .nil (.one (.loop [(14, .slc), (15, (.int .i64))] (.two .nil (.two (.one (.draw [0, 0, 0, 6, 14, 0, 0, 96, 224, 510, 1022, 2047, 4095])) .nil))))) .nil))))))) (by kernel_rfl) (by kernel_rfl)
 (Eq.mp (by kernel_rfl) h)

/-- sallyport/sallyportref02.Sum -/
def f79 (p0 : Sl) (K : Sl → World → Prop) (w : World) : Prop :=
 semS Tryz.prog (Instr.buildSlice 160 8 #[(0, (.int .u32 1779033703)), (1, (.int .u32 3144134277)), (2, (.int .u32 1013904242)), (3, (.int .u32 2773480762)), (4, (.int .u32 1359893119)), (5, (.int .u32 2600822924)), (6, (.int .u32 528734635)), (7, (.int .u32 1541459225))]) (.one .slc) (fun x1 w =>
 callS Tryz.prog 96 #[(.slice p0.a p0.len p0.cap)] [(.one .slc)] (fun r2 w =>
 loopS (σ := Sl × Int) (fun s3 w again4 =>
 cond (decide (s3.2 < (r2.len : Int)))
 (semS Tryz.prog (Instr.sliceAt 22 (.slice r2.a r2.len r2.cap) (some (.int .i64 s3.2)) (some (.int .i64 (IntKind.wrap .i64 (s3.2 + 64)))) none) (.one .slc) (fun x5 w =>
 callS Tryz.prog 97 #[(.slice s3.1.a s3.1.len s3.1.cap), (.slice x5.a x5.len x5.cap)] [(.one .slc)] (fun r6 w =>
 again4 (r6, IntKind.wrap .i64 (s3.2 + 64)) w) w) w)
 (loopS (σ := Sl × Int) (fun s7 w again8 =>
 cond (decide (s7.2 < 8))
 (loopS (σ := Sl × Int) (fun s9 w again10 =>
 cond (decide (s9.2 ≥ 0))
 (semS Tryz.prog (Instr.indexAt 160 (.slice s3.1.a s3.1.len s3.1.cap) (.int .i64 s7.2)) (.one .adr) (fun x11 w =>
 semS Tryz.prog (Instr.loadAt 159 (.pointer (some x11))) (.one (.int .u32)) (fun x12 w =>
 semS Tryz.prog (binS .shr 159 (.tmp 37) (.tmp 39) (.int .u32 x12) (.int .i64 (IntKind.wrap .i64 (8 * s9.2)))) (.one (.int .u32)) (fun x13 w =>
 semS Tryz.prog (Instr.buildSlice 22 1 #[(0, (.int .u8 (IntKind.wrap .u8 x13)))]) (.one .slc) (fun x14 w =>
 semS Tryz.prog (Builtin.append_ #[22, 22] 22 #[(.slice s9.1.a s9.1.len s9.1.cap), (.slice x14.a x14.len x14.cap)]) (.one .slc) (fun r15 w =>
 again10 (r15, IntKind.wrap .i64 (s9.2 - 1)) w) w) w) w) w) w)
 (again8 (s9.1, IntKind.wrap .i64 (s7.2 + 1)) w)) (s7.1, 3) w)
 (K s7.1 w)) (⟨none, 0, 0⟩, 0) w)) (x1, 0) w) w) w
theorem f79_ok {p0 : Sl} {K : Sl → World → Prop} {w : World} (h : f79 p0 K w) : callS Tryz.prog 79 #[(.slice p0.a p0.len p0.cap)] [(.one .slc)] K w :=
 calls_of_fn (args := [(.slice p0.a p0.len p0.cap)]) Tryz.f79 [] [] [] (.two .nil (.two .nil (.two .nil (.two (.two .nil (.one (.loop [(3, .slc), (5, (.int .i64))] .nil))) (.two .nil (.two (.two .nil (.one (.loop [(6, .slc), (7, (.int .i64))] (.two .nil (.two (.one (.two .nil (.one (.loop [(6, .slc), (8, (.int .i64))] .nil)))) .nil))))) .nil)))))) (by kernel_rfl) (by kernel_rfl)
 (Eq.mp (by kernel_rfl) h)

/-- sallyport/sallyportref03.padded -/
def f98 (p0 : Sl) (K : Sl → World → Prop) (w : World) : Prop :=
 semS Tryz.prog (Instr.buildSlice 22 0 #[]) (.one .slc) (fun x1 w =>
 semS Tryz.prog (Builtin.append_ #[22, 22] 22 #[(.slice x1.a x1.len x1.cap), (.slice p0.a p0.len p0.cap)]) (.one .slc) (fun r2 w =>
 semS Tryz.prog (Instr.buildSlice 22 1 #[(0, (.int .u8 128))]) (.one .slc) (fun x3 w =>
 semS Tryz.prog (Builtin.append_ #[22, 22] 22 #[(.slice r2.a r2.len r2.cap), (.slice x3.a x3.len x3.cap)]) (.one .slc) (fun r4 w =>
 loopS (σ := Sl) (fun x5 w again6 =>
 cond ((Int.tmod (x5.len : Int) 128) != 112)
 (semS Tryz.prog (Instr.buildSlice 22 1 #[(0, (.int .u8 0))]) (.one .slc) (fun x7 w =>
 semS Tryz.prog (Builtin.append_ #[22, 22] 22 #[(.slice x5.a x5.len x5.cap), (.slice x7.a x7.len x7.cap)]) (.one .slc) (fun r8 w =>
 again6 r8 w) w) w)
 (loopS (σ := Sl × Int) (fun s9 w again10 =>
 cond (decide (s9.2 < 8))
 (semS Tryz.prog (Instr.buildSlice 22 1 #[(0, (.int .u8 0))]) (.one .slc) (fun x11 w =>
 semS Tryz.prog (Builtin.append_ #[22, 22] 22 #[(.slice s9.1.a s9.1.len s9.1.cap), (.slice x11.a x11.len x11.cap)]) (.one .slc) (fun r12 w =>
 again10 (r12, IntKind.wrap .i64 (s9.2 + 1)) w) w) w)
 (loopS (σ := Sl × Int) (fun s13 w again14 =>
 cond (decide (s13.2 ≥ 0))
 (semS Tryz.prog (binS .shr 162 (.tmp 36) (.tmp 38) (.int .u64 (IntKind.wrap .u64 ((IntKind.wrap .u64 (p0.len : Int)) * 8))) (.int .i64 (IntKind.wrap .i64 (8 * s13.2)))) (.one (.int .u64)) (fun x15 w =>
 semS Tryz.prog (Instr.buildSlice 22 1 #[(0, (.int .u8 (IntKind.wrap .u8 x15)))]) (.one .slc) (fun x16 w =>
 semS Tryz.prog (Builtin.append_ #[22, 22] 22 #[(.slice s13.1.a s13.1.len s13.1.cap), (.slice x16.a x16.len x16.cap)]) (.one .slc) (fun r17 w =>
 again14 (r17, IntKind.wrap .i64 (s13.2 - 1)) w) w) w) w)
 (K s13.1 w)) (s9.1, 7) w)) (x5, 0) w)) r4 w) w) w) w) w
theorem f98_ok {p0 : Sl} {K : Sl → World → Prop} {w : World} (h : f98 p0 K w) : callS Tryz.prog 98 #[(.slice p0.a p0.len p0.cap)] [(.one .slc)] K w :=
 calls_of_fn (args := [(.slice p0.a p0.len p0.cap)]) Tryz.f98 [] [] [] (.two .nil (.two .nil (.two .nil (.two (.one (.loop [(3, .slc)] .nil)) (.two (.two .nil (.one (.loop [(3, .slc), (4, (.int .i64))] .nil))) (.two .nil (.two (.two .nil (.one (.loop [(3, .slc), (6, (.int .i64))] .nil))) .nil))))))) (by kernel_rfl) (by kernel_rfl)
 (Eq.mp (by kernel_rfl) h)

/-- sallyport/sallyportref03.right -/
def f110 (p0 : Int) (p1 : Int) (K : Int → World → Prop) (w : World) : Prop :=
 drawS w fun C w =>
 semQ Tryz.prog C (binS .shr 162 (.tmp 5) (.tmp 6) (.int .u64 p0) (.int .i64 p1)) (.one (.int .u64)) (fun x1 =>
 semQ Tryz.prog C (binS .shl 162 (.tmp 8) (.tmp 10) (.int .u64 p0) (.int .i64 (IntKind.wrap .i64 (64 - p1)))) (.one (.int .u64)) (fun x2 =>
 K (orI .u64 x1 x2) w))
theorem f110_ok {p0 : Int} {p1 : Int} {K : Int → World → Prop} {w : World} (h : f110 p0 p1 K w) : callS Tryz.prog 110 #[(.int .u64 p0), (.int .i64 p1)] [(.one (.int .u64))] K w :=
 calls_of_fn (args := [(.int .u64 p0), (.int .i64 p1)]) Tryz.f110 [] [] [] (.two .nil (.two (.draw [0, 0, 3, 0, 0, 16, 56, 127, 255]) .nil)) (by kernel_rfl) (by kernel_rfl)
 (Eq.mp (by kernel_rfl) h)

/-- sallyport/sallyportref03.words -/
def f108 (p0 : Sl) (K : Sl → World → Prop) (w : World) : Prop :=
 loopS (σ := Sl × Int) (fun s1 w again2 =>
 cond (decide (s1.2 < 16))
 (loopS (σ := Int × Int) (fun s3 w again4 =>
 cond (decide (s3.2 < 8))
 (semS Tryz.prog (Instr.indexAt 22 (.slice p0.a p0.len p0.cap) (.int .i64 (IntKind.wrap .i64 ((IntKind.wrap .i64 (8 * s1.2)) + s3.2)))) (.one .adr) (fun x5 w =>
 semS Tryz.prog (Instr.loadAt 5 (.pointer (some x5))) (.one (.int .u8)) (fun x6 w =>
 again4 (IntKind.wrap .u64 ((IntKind.wrap .u64 (s3.1 * 256)) + (IntKind.wrap .u64 x6)), IntKind.wrap .i64 (s3.2 + 1)) w) w) w)
 (semS Tryz.prog (Instr.buildSlice 163 1 #[(0, (.int .u64 s3.1))]) (.one .slc) (fun x7 w =>
 semS Tryz.prog (Builtin.append_ #[163, 163] 163 #[(.slice s1.1.a s1.1.len s1.1.cap), (.slice x7.a x7.len x7.cap)]) (.one .slc) (fun r8 w =>
 again2 (r8, IntKind.wrap .i64 (s1.2 + 1)) w) w) w)) (0, 0) w)
 (loopS (σ := Sl × Int) (fun s9 w again10 =>
 cond (decide (s9.2 < 80))
 (drawS w fun C w =>
 semQ Tryz.prog C (Instr.indexAt 163 (.slice s9.1.a s9.1.len s9.1.cap) (.int .i64 (IntKind.wrap .i64 (s9.2 - 15)))) (.one .adr) (fun x11 =>
 semQ Tryz.prog C (Instr.loadAt 162 (.pointer (some x11))) (.one (.int .u64)) (fun x12 =>
 semQ Tryz.prog C (Instr.indexAt 163 (.slice s9.1.a s9.1.len s9.1.cap) (.int .i64 (IntKind.wrap .i64 (s9.2 - 15)))) (.one .adr) (fun x13 =>
 semQ Tryz.prog C (Instr.loadAt 162 (.pointer (some x13))) (.one (.int .u64)) (fun x14 =>
 semQ Tryz.prog C (Instr.indexAt 163 (.slice s9.1.a s9.1.len s9.1.cap) (.int .i64 (IntKind.wrap .i64 (s9.2 - 15)))) (.one .adr) (fun x15 =>
 semQ Tryz.prog C (Instr.loadAt 162 (.pointer (some x15))) (.one (.int .u64)) (fun x16 =>
 callS Tryz.prog 110 #[(.int .u64 x12), (.int .i64 1)] [(.one (.int .u64))] (fun r17 w =>
 moreS C w (fun C =>
 callS Tryz.prog 110 #[(.int .u64 x14), (.int .i64 8)] [(.one (.int .u64))] (fun r18 w =>
 moreS C w (fun C =>
 drawS w fun C w =>
 semQ Tryz.prog C (Instr.indexAt 163 (.slice s9.1.a s9.1.len s9.1.cap) (.int .i64 (IntKind.wrap .i64 (s9.2 - 2)))) (.one .adr) (fun x19 =>
 semQ Tryz.prog C (Instr.loadAt 162 (.pointer (some x19))) (.one (.int .u64)) (fun x20 =>
 semQ Tryz.prog C (Instr.indexAt 163 (.slice s9.1.a s9.1.len s9.1.cap) (.int .i64 (IntKind.wrap .i64 (s9.2 - 2)))) (.one .adr) (fun x21 =>
 semQ Tryz.prog C (Instr.loadAt 162 (.pointer (some x21))) (.one (.int .u64)) (fun x22 =>
 semQ Tryz.prog C (Instr.indexAt 163 (.slice s9.1.a s9.1.len s9.1.cap) (.int .i64 (IntKind.wrap .i64 (s9.2 - 2)))) (.one .adr) (fun x23 =>
 semQ Tryz.prog C (Instr.loadAt 162 (.pointer (some x23))) (.one (.int .u64)) (fun x24 =>
 callS Tryz.prog 110 #[(.int .u64 x20), (.int .i64 19)] [(.one (.int .u64))] (fun r25 w =>
 moreS C w (fun C =>
 callS Tryz.prog 110 #[(.int .u64 x22), (.int .i64 61)] [(.one (.int .u64))] (fun r26 w =>
 moreS C w (fun C =>
 drawS w fun C w =>
 semQ Tryz.prog C (Instr.indexAt 163 (.slice s9.1.a s9.1.len s9.1.cap) (.int .i64 (IntKind.wrap .i64 (s9.2 - 16)))) (.one .adr) (fun x27 =>
 semQ Tryz.prog C (Instr.loadAt 162 (.pointer (some x27))) (.one (.int .u64)) (fun x28 =>
 semQ Tryz.prog C (Instr.indexAt 163 (.slice s9.1.a s9.1.len s9.1.cap) (.int .i64 (IntKind.wrap .i64 (s9.2 - 7)))) (.one .adr) (fun x29 =>
 semQ Tryz.prog C (Instr.loadAt 162 (.pointer (some x29))) (.one (.int .u64)) (fun x30 =>
 semS Tryz.prog (Instr.buildSlice 163 1 #[(0, (.int .u64 (IntKind.wrap .u64 ((IntKind.wrap .u64 ((IntKind.wrap .u64 (x28 + (xorI .u64 (xorI .u64 r17 r18) (shrI .u64 x16 7)))) + x30)) + (xorI .u64 (xorI .u64 r25 r26) (shrI .u64 x24 6))))))]) (.one .slc) (fun x31 w =>
 semS Tryz.prog (Builtin.append_ #[163, 163] 163 #[(.slice s9.1.a s9.1.len s9.1.cap), (.slice x31.a x31.len x31.cap)]) (.one .slc) (fun r32 w =>
 again10 (r32, IntKind.wrap .i64 (s9.2 + 1)) w) w) w)))))) w)) w)))))))) w)) w)))))))
 (K s9.1 w)) (s1.1, 16) w)) (⟨none, 0, 0⟩, 0) w
theorem f108_ok {p0 : Sl} {K : Sl → World → Prop} {w : World} (h : f108 p0 K w) : callS Tryz.prog 108 #[(.slice p0.a p0.len p0.cap)] [(.one .slc)] K w :=
 calls_of_fn (args := [(.slice p0.a p0.len p0.cap)]) Tryz.f108 [] [] [] (.two .nil (.two .nil (.two (.two .nil (.one (.loop [(3, .slc), (4, (.int .i64))] (.two .nil (.two (.one (.two .nil (.two (.two .nil (.one (.loop [(5, (.int .u64)), (6, (.int .i64))] .nil))) .nil))) .nil))))) (.two (.two .nil (.one (.loop [(3, .slc), (7, (.int .i64))] (.two .nil (.two (.one (.two (.draw [0, 0, 2, 7, 15, 31, 0, 0, 128, 448, 960, 2047, 4095, 0, 0, 16384, 57344, 122880, 253952, 524287, 1048575]) (.two (.draw [0, 0, 2, 7, 15, 31, 0, 0, 128, 448, 960, 2047, 4095, 0, 0, 16384, 57344, 122880, 253952, 524287, 1048575]) (.draw [0, 0, 0, 4, 14, 30, 0, 126, 0, 0, 512, 1792, 3840, 8190, 0, 32766, 65534, 131071, 262143])))) .nil))))) .nil)))) (by kernel_rfl) (by kernel_rfl)
 (Eq.mp (by kernel_rfl) h)

/-- sallyport/sallyportref03.constants -/
def f109  (K : Sl → World → Prop) (w : World) : Prop :=
 semS Tryz.prog (Instr.buildSlice 163 80 #[(0, (.int .u64 4794697086780616226)), (1, (.int .u64 8158064640168781261)), (2, (.int .u64 13096744586834688815)), (3, (.int .u64 16840607885511220156)), (4, (.int .u64 4131703408338449720)), (5, (.int .u64 6480981068601479193)), (6, (.int .u64 10538285296894168987)), (7, (.int .u64 12329834152419229976)), (8, (.int .u64 15566598209576043074)), (9, (.int .u64 1334009975649890238)), (10, (.int .u64 2608012711638119052)), (11, (.int .u64 6128411473006802146)), (12, (.int .u64 8268148722764581231)), (13, (.int .u64 9286055187155687089)), (14, (.int .u64 11230858885718282805)), (15, (.int .u64 13951009754708518548)), (16, (.int .u64 16472876342353939154)), (17, (.int .u64 17275323862435702243)), (18, (.int .u64 1135362057144423861)), (19, (.int .u64 2597628984639134821)), (20, (.int .u64 3308224258029322869)), (21, (.int .u64 5365058923640841347)), (22, (.int .u64 6679025012923562964)), (23, (.int .u64 8573033837759648693)), (24, (.int .u64 10970295158949994411)), (25, (.int .u64 12119686244451234320)), (26, (.int .u64 12683024718118986047)), (27, (.int .u64 13788192230050041572)), (28, (.int .u64 14330467153632333762)), (29, (.int .u64 15395433587784984357)), (30, (.int .u64 489312712824947311)), (31, (.int .u64 1452737877330783856)), (32, (.int .u64 2861767655752347644)), (33, (.int .u64 3322285676063803686)), (34, (.int .u64 5560940570517711597)), (35, (.int .u64 5996557281743188959)), (36, (.int .u64 7280758554555802590)), (37, (.int .u64 8532644243296465576)), (38, (.int .u64 9350256976987008742)), (39, (.int .u64 10552545826968843579)), (40, (.int .u64 11727347734174303076)), (41, (.int .u64 12113106623233404929)), (42, (.int .u64 14000437183269869457)), (43, (.int .u64 14369950271660146224)), (44, (.int .u64 15101387698204529176)), (45, (.int .u64 15463397548674623760)), (46, (.int .u64 17586052441742319658)), (47, (.int .u64 1182934255886127544)), (48, (.int .u64 1847814050463011016)), (49, (.int .u64 2177327727835720531)), (50, (.int .u64 2830643537854262169)), (51, (.int .u64 3796741975233480872)), (52, (.int .u64 4115178125766777443)), (53, (.int .u64 5681478168544905931)), (54, (.int .u64 6601373596472566643)), (55, (.int .u64 7507060721942968483)), (56, (.int .u64 8399075790359081724)), (57, (.int .u64 8693463985226723168)), (58, (.int .u64 9568029438360202098)), (59, (.int .u64 10144078919501101548)), (60, (.int .u64 10430055236837252648)), (61, (.int .u64 11840083180663258601)), (62, (.int .u64 13761210420658862357)), (63, (.int .u64 14299343276471374635)), (64, (.int .u64 14566680578165727644)), (65, (.int .u64 15097957966210449927)), (66, (.int .u64 16922976911328602910)), (67, (.int .u64 17689382322260857208)), (68, (.int .u64 500013540394364858)), (69, (.int .u64 748580250866718886)), (70, (.int .u64 1242879168328830382)), (71, (.int .u64 1977374033974150939)), (72, (.int .u64 2944078676154940804)), (73, (.int .u64 3659926193048069267)), (74, (.int .u64 4368137639120453308)), (75, (.int .u64 4836135668995329356)), (76, (.int .u64 5532061633213252278)), (77, (.int .u64 6448918945643986474)), (78, (.int .u64 6902733635092675308)), (79, (.int .u64 7801388544844847127))]) (.one .slc) (fun x1 w =>
 K x1 w) w
theorem f109_ok  {K : Sl → World → Prop} {w : World} (h : f109  K w) : callS Tryz.prog 109 #[] [(.one .slc)] K w :=
 calls_of_fn (args := []) Tryz.f109 [] [] [] .nil (by kernel_rfl) (by kernel_rfl)
 (Eq.mp (by kernel_rfl) h)

/-- sallyport/sallyportref03.block -/
def f99 (p0 : Sl) (p1 : Sl) (K : Sl → World → Prop) (w : World) : Prop :=
 callS Tryz.prog 108 #[(.slice p1.a p1.len p1.cap)] [(.one .slc)] (fun r1 w =>
 callS Tryz.prog 109 #[] [(.one .slc)] (fun r2 w =>
 semS Tryz.prog (Instr.buildSlice 163 0 #[]) (.one .slc) (fun x3 w =>
 semS Tryz.prog (Builtin.append_ #[163, 163] 163 #[(.slice x3.a x3.len x3.cap), (.slice p0.a p0.len p0.cap)]) (.one .slc) (fun r4 w =>
 loopS (σ := Sl × Int) (fun s5 w again6 =>
 cond (decide (s5.2 < 80))
 (drawS w fun C w =>
 semQ Tryz.prog C (Instr.indexAt 163 (.slice s5.1.a s5.1.len s5.1.cap) (.int .i64 4)) (.one .adr) (fun x7 =>
 semQ Tryz.prog C (Instr.loadAt 162 (.pointer (some x7))) (.one (.int .u64)) (fun x8 =>
 semQ Tryz.prog C (Instr.indexAt 163 (.slice s5.1.a s5.1.len s5.1.cap) (.int .i64 4)) (.one .adr) (fun x9 =>
 semQ Tryz.prog C (Instr.loadAt 162 (.pointer (some x9))) (.one (.int .u64)) (fun x10 =>
 semQ Tryz.prog C (Instr.indexAt 163 (.slice s5.1.a s5.1.len s5.1.cap) (.int .i64 4)) (.one .adr) (fun x11 =>
 semQ Tryz.prog C (Instr.loadAt 162 (.pointer (some x11))) (.one (.int .u64)) (fun x12 =>
 callS Tryz.prog 110 #[(.int .u64 x8), (.int .i64 14)] [(.one (.int .u64))] (fun r13 w =>
 moreS C w (fun C =>
 callS Tryz.prog 110 #[(.int .u64 x10), (.int .i64 18)] [(.one (.int .u64))] (fun r14 w =>
 moreS C w (fun C =>
 callS Tryz.prog 110 #[(.int .u64 x12), (.int .i64 41)] [(.one (.int .u64))] (fun r15 w =>
 drawS w fun C w =>
 semQ Tryz.prog C (Instr.indexAt 163 (.slice s5.1.a s5.1.len s5.1.cap) (.int .i64 4)) (.one .adr) (fun x16 =>
 semQ Tryz.prog C (Instr.loadAt 162 (.pointer (some x16))) (.one (.int .u64)) (fun x17 =>
 semQ Tryz.prog C (Instr.indexAt 163 (.slice s5.1.a s5.1.len s5.1.cap) (.int .i64 5)) (.one .adr) (fun x18 =>
 semQ Tryz.prog C (Instr.loadAt 162 (.pointer (some x18))) (.one (.int .u64)) (fun x19 =>
 semQ Tryz.prog C (Instr.indexAt 163 (.slice s5.1.a s5.1.len s5.1.cap) (.int .i64 4)) (.one .adr) (fun x20 =>
 semQ Tryz.prog C (Instr.loadAt 162 (.pointer (some x20))) (.one (.int .u64)) (fun x21 =>
 semQ Tryz.prog C (Instr.indexAt 163 (.slice s5.1.a s5.1.len s5.1.cap) (.int .i64 6)) (.one .adr) (fun x22 =>
 semQ Tryz.prog C (Instr.loadAt 162 (.pointer (some x22))) (.one (.int .u64)) (fun x23 =>
 drawS w fun C w =>
 semQ Tryz.prog C (Instr.indexAt 163 (.slice s5.1.a s5.1.len s5.1.cap) (.int .i64 7)) (.one .adr) (fun x24 =>
 semQ Tryz.prog C (Instr.loadAt 162 (.pointer (some x24))) (.one (.int .u64)) (fun x25 =>
 semQ Tryz.prog C (Instr.indexAt 163 (.slice r2.a r2.len r2.cap) (.int .i64 s5.2)) (.one .adr) (fun x26 =>
 semQ Tryz.prog C (Instr.loadAt 162 (.pointer (some x26))) (.one (.int .u64)) (fun x27 =>
 semQ Tryz.prog C (Instr.indexAt 163 (.slice r1.a r1.len r1.cap) (.int .i64 s5.2)) (.one .adr) (fun x28 =>
 semQ Tryz.prog C (Instr.loadAt 162 (.pointer (some x28))) (.one (.int .u64)) (fun x29 =>
 drawS w fun C w =>
 semQ Tryz.prog C (Instr.indexAt 163 (.slice s5.1.a s5.1.len s5.1.cap) (.int .i64 0)) (.one .adr) (fun x30 =>
 semQ Tryz.prog C (Instr.loadAt 162 (.pointer (some x30))) (.one (.int .u64)) (fun x31 =>
 semQ Tryz.prog C (Instr.indexAt 163 (.slice s5.1.a s5.1.len s5.1.cap) (.int .i64 0)) (.one .adr) (fun x32 =>
 semQ Tryz.prog C (Instr.loadAt 162 (.pointer (some x32))) (.one (.int .u64)) (fun x33 =>
 semQ Tryz.prog C (Instr.indexAt 163 (.slice s5.1.a s5.1.len s5.1.cap) (.int .i64 0)) (.one .adr) (fun x34 =>
 semQ Tryz.prog C (Instr.loadAt 162 (.pointer (some x34))) (.one (.int .u64)) (fun x35 =>
 callS Tryz.prog 110 #[(.int .u64 x31), (.int .i64 28)] [(.one (.int .u64))] (fun r36 w =>
 moreS C w (fun C =>
 callS Tryz.prog 110 #[(.int .u64 x33), (.int .i64 34)] [(.one (.int .u64))] (fun r37 w =>
 moreS C w (fun C =>
 callS Tryz.prog 110 #[(.int .u64 x35), (.int .i64 39)] [(.one (.int .u64))] (fun r38 w =>
 drawS w fun C w =>
 semQ Tryz.prog C (Instr.indexAt 163 (.slice s5.1.a s5.1.len s5.1.cap) (.int .i64 0)) (.one .adr) (fun x39 =>
 semQ Tryz.prog C (Instr.loadAt 162 (.pointer (some x39))) (.one (.int .u64)) (fun x40 =>
 semQ Tryz.prog C (Instr.indexAt 163 (.slice s5.1.a s5.1.len s5.1.cap) (.int .i64 1)) (.one .adr) (fun x41 =>
 semQ Tryz.prog C (Instr.loadAt 162 (.pointer (some x41))) (.one (.int .u64)) (fun x42 =>
 semQ Tryz.prog C (Instr.indexAt 163 (.slice s5.1.a s5.1.len s5.1.cap) (.int .i64 0)) (.one .adr) (fun x43 =>
 semQ Tryz.prog C (Instr.loadAt 162 (.pointer (some x43))) (.one (.int .u64)) (fun x44 =>
 semQ Tryz.prog C (Instr.indexAt 163 (.slice s5.1.a s5.1.len s5.1.cap) (.int .i64 2)) (.one .adr) (fun x45 =>
 semQ Tryz.prog C (Instr.loadAt 162 (.pointer (some x45))) (.one (.int .u64)) (fun x46 =>
 semQ Tryz.prog C (Instr.indexAt 163 (.slice s5.1.a s5.1.len s5.1.cap) (.int .i64 1)) (.one .adr) (fun x47 =>
 semQ Tryz.prog C (Instr.loadAt 162 (.pointer (some x47))) (.one (.int .u64)) (fun x48 =>
 semQ Tryz.prog C (Instr.indexAt 163 (.slice s5.1.a s5.1.len s5.1.cap) (.int .i64 2)) (.one .adr) (fun x49 =>
 semQ Tryz.prog C (Instr.loadAt 162 (.pointer (some x49))) (.one (.int .u64)) (fun x50 =>
 drawS w fun C w =>
 semQ Tryz.prog C (Instr.indexAt 163 (.slice s5.1.a s5.1.len s5.1.cap) (.int .i64 0)) (.one .adr) (fun x51 =>
 semQ Tryz.prog C (Instr.loadAt 162 (.pointer (some x51))) (.one (.int .u64)) (fun x52 =>
 semQ Tryz.prog C (Instr.indexAt 163 (.slice s5.1.a s5.1.len s5.1.cap) (.int .i64 1)) (.one .adr) (fun x53 =>
 semQ Tryz.prog C (Instr.loadAt 162 (.pointer (some x53))) (.one (.int .u64)) (fun x54 =>
 semQ Tryz.prog C (Instr.indexAt 163 (.slice s5.1.a s5.1.len s5.1.cap) (.int .i64 2)) (.one .adr) (fun x55 =>
 semQ Tryz.prog C (Instr.loadAt 162 (.pointer (some x55))) (.one (.int .u64)) (fun x56 =>
 semQ Tryz.prog C (Instr.indexAt 163 (.slice s5.1.a s5.1.len s5.1.cap) (.int .i64 3)) (.one .adr) (fun x57 =>
 semQ Tryz.prog C (Instr.loadAt 162 (.pointer (some x57))) (.one (.int .u64)) (fun x58 =>
 semQ Tryz.prog C (Instr.indexAt 163 (.slice s5.1.a s5.1.len s5.1.cap) (.int .i64 4)) (.one .adr) (fun x59 =>
 semQ Tryz.prog C (Instr.loadAt 162 (.pointer (some x59))) (.one (.int .u64)) (fun x60 =>
 semQ Tryz.prog C (Instr.indexAt 163 (.slice s5.1.a s5.1.len s5.1.cap) (.int .i64 5)) (.one .adr) (fun x61 =>
 semQ Tryz.prog C (Instr.loadAt 162 (.pointer (some x61))) (.one (.int .u64)) (fun x62 =>
 semQ Tryz.prog C (Instr.indexAt 163 (.slice s5.1.a s5.1.len s5.1.cap) (.int .i64 6)) (.one .adr) (fun x63 =>
 semQ Tryz.prog C (Instr.loadAt 162 (.pointer (some x63))) (.one (.int .u64)) (fun x64 =>
 semS Tryz.prog (Instr.buildSlice 163 8 #[(0, (.int .u64 (IntKind.wrap .u64 ((IntKind.wrap .u64 ((IntKind.wrap .u64 ((IntKind.wrap .u64 ((IntKind.wrap .u64 ((IntKind.wrap .u64 (x25 + (xorI .u64 (xorI .u64 r13 r14) r15))) + (xorI .u64 (andI .u64 x17 x19) (andI .u64 (xorI .u64 (IntKind.max .u64) x21) x23)))) + x27)) + x29)) + (xorI .u64 (xorI .u64 r36 r37) r38))) + (xorI .u64 (xorI .u64 (andI .u64 x40 x42) (andI .u64 x44 x46)) (andI .u64 x48 x50)))))), (1, (.int .u64 x52)), (2, (.int .u64 x54)), (3, (.int .u64 x56)), (4, (.int .u64 (IntKind.wrap .u64 (x58 + (IntKind.wrap .u64 ((IntKind.wrap .u64 ((IntKind.wrap .u64 ((IntKind.wrap .u64 (x25 + (xorI .u64 (xorI .u64 r13 r14) r15))) + (xorI .u64 (andI .u64 x17 x19) (andI .u64 (xorI .u64 (IntKind.max .u64) x21) x23)))) + x27)) + x29)))))), (5, (.int .u64 x60)), (6, (.int .u64 x62)), (7, (.int .u64 x64))]) (.one .slc) (fun x65 w =>
 again6 (x65, IntKind.wrap .i64 (s5.2 + 1)) w) w))))))))))))))))))))))))))) w)) w)) w))))))))))))))))))))) w)) w)) w)))))))
 (loopS (σ := Sl × Int) (fun s66 w again67 =>
 cond (decide (s66.2 < 8))
 (drawS w fun C w =>
 semQ Tryz.prog C (Instr.indexAt 163 (.slice p0.a p0.len p0.cap) (.int .i64 s66.2)) (.one .adr) (fun x68 =>
 semQ Tryz.prog C (Instr.loadAt 162 (.pointer (some x68))) (.one (.int .u64)) (fun x69 =>
 semQ Tryz.prog C (Instr.indexAt 163 (.slice s5.1.a s5.1.len s5.1.cap) (.int .i64 s66.2)) (.one .adr) (fun x70 =>
 semQ Tryz.prog C (Instr.loadAt 162 (.pointer (some x70))) (.one (.int .u64)) (fun x71 =>
 semS Tryz.prog (Instr.buildSlice 163 1 #[(0, (.int .u64 (IntKind.wrap .u64 (x69 + x71))))]) (.one .slc) (fun x72 w =>
 semS Tryz.prog (Builtin.append_ #[163, 163] 163 #[(.slice s66.1.a s66.1.len s66.1.cap), (.slice x72.a x72.len x72.cap)]) (.one .slc) (fun r73 w =>
 again67 (r73, IntKind.wrap .i64 (s66.2 + 1)) w) w) w)))))
 (K s66.1 w)) (⟨none, 0, 0⟩, 0) w)) (r4, 0) w) w) w) w) w
theorem f99_ok {p0 : Sl} {p1 : Sl} {K : Sl → World → Prop} {w : World} (h : f99 p0 p1 K w) : callS Tryz.prog 99 #[(.slice p0.a p0.len p0.cap), (.slice p1.a p1.len p1.cap)] [(.one .slc)] K w :=
 calls_of_fn (args := [(.slice p0.a p0.len p0.cap), (.slice p1.a p1.len p1.cap)]) Tryz.f99 [] [] [] (.two .nil (.two .nil (.two .nil (.two .nil (.two (.two .nil (.one (.loop [(7, .slc), (8, (.int .i64))] (.two .nil (.two (.one (.two (.draw [0, 1, 3, 7, 0, 16, 48, 127, 255, 0, 512, 1536, 3839, 8191, 16383]) (.two (.draw [0, 1, 3, 0, 8, 24, 63, 0, 128, 384, 896, 0, 2048, 6144, 16256, 32767, 65535]) (.two (.draw [0, 1, 3, 0, 15, 0, 63, 0, 0, 384, 896, 2047, 0, 0, 12288, 28672, 65535, 131071]) (.two (.draw [0, 1, 3, 7, 0, 16, 48, 127, 255, 0, 512, 1536, 3839, 8191, 16383]) (.two (.draw [0, 1, 3, 0, 8, 24, 63, 0, 128, 384, 0, 1024, 3072, 8064, 16383, 0, 32768, 98304, 0, 262144, 786432, 2064384, 4194303, 8388607]) (.draw [0, 0, 3, 0, 15, 0, 32, 96, 0, 256, 768, 0, 2048, 6144, 0, 16384, 49152, 0, 245760, 0, 524288, 1572864, 0, 4194304, 12582912, 0, 33554432, 100663296, 268435455, 536870911]))))))) .nil))))) (.two .nil (.two (.two .nil (.one (.loop [(14, .slc), (15, (.int .i64))] (.two .nil (.two (.one (.draw [0, 0, 0, 6, 14, 0, 0, 96, 224, 510, 1022, 2047, 4095])) .nil))))) .nil))))))) (by kernel_rfl) (by kernel_rfl)
 (Eq.mp (by kernel_rfl) h)

/-- sallyport/sallyportref03.Sum -/
def f80 (p0 : Sl) (K : Sl → World → Prop) (w : World) : Prop :=
 semS Tryz.prog (Instr.buildSlice 163 8 #[(0, (.int .u64 7640891576956012808)), (1, (.int .u64 13503953896175478587)), (2, (.int .u64 4354685564936845355)), (3, (.int .u64 11912009170470909681)), (4, (.int .u64 5840696475078001361)), (5, (.int .u64 11170449401992604703)), (6, (.int .u64 2270897969802886507)), (7, (.int .u64 6620516959819538809))]) (.one .slc) (fun x1 w =>
 callS Tryz.prog 98 #[(.slice p0.a p0.len p0.cap)] [(.one .slc)] (fun r2 w =>
 loopS (σ := Sl × Int) (fun s3 w again4 =>
 cond (decide (s3.2 < (r2.len : Int)))
 (semS Tryz.prog (Instr.sliceAt 22 (.slice r2.a r2.len r2.cap) (some (.int .i64 s3.2)) (some (.int .i64 (IntKind.wrap .i64 (s3.2 + 128)))) none) (.one .slc) (fun x5 w =>
 callS Tryz.prog 99 #[(.slice s3.1.a s3.1.len s3.1.cap), (.slice x5.a x5.len x5.cap)] [(.one .slc)] (fun r6 w =>
 again4 (r6, IntKind.wrap .i64 (s3.2 + 128)) w) w) w)
 (loopS (σ := Sl × Int) (fun s7 w again8 =>
 cond (decide (s7.2 < 8))
 (loopS (σ := Sl × Int) (fun s9 w again10 =>
 cond (decide (s9.2 ≥ 0))
 (semS Tryz.prog (Instr.indexAt 163 (.slice s3.1.a s3.1.len s3.1.cap) (.int .i64 s7.2)) (.one .adr) (fun x11 w =>
 semS Tryz.prog (Instr.loadAt 162 (.pointer (some x11))) (.one (.int .u64)) (fun x12 w =>
 semS Tryz.prog (binS .shr 162 (.tmp 37) (.tmp 39) (.int .u64 x12) (.int .i64 (IntKind.wrap .i64 (8 * s9.2)))) (.one (.int .u64)) (fun x13 w =>
 semS Tryz.prog (Instr.buildSlice 22 1 #[(0, (.int .u8 (IntKind.wrap .u8 x13)))]) (.one .slc) (fun x14 w =>
 semS Tryz.prog (Builtin.append_ #[22, 22] 22 #[(.slice s9.1.a s9.1.len s9.1.cap), (.slice x14.a x14.len x14.cap)]) (.one .slc) (fun r15 w =>
 again10 (r15, IntKind.wrap .i64 (s9.2 - 1)) w) w) w) w) w) w)
 (again8 (s9.1, IntKind.wrap .i64 (s7.2 + 1)) w)) (s7.1, 7) w)
 (K s7.1 w)) (⟨none, 0, 0⟩, 0) w)) (x1, 0) w) w) w
theorem f80_ok {p0 : Sl} {K : Sl → World → Prop} {w : World} (h : f80 p0 K w) : callS Tryz.prog 80 #[(.slice p0.a p0.len p0.cap)] [(.one .slc)] K w :=
 calls_of_fn (args := [(.slice p0.a p0.len p0.cap)]) Tryz.f80 [] [] [] (.two .nil (.two .nil (.two .nil (.two (.two .nil (.one (.loop [(3, .slc), (5, (.int .i64))] .nil))) (.two .nil (.two (.two .nil (.one (.loop [(6, .slc), (7, (.int .i64))] (.two .nil (.two (.one (.two .nil (.one (.loop [(6, .slc), (8, (.int .i64))] .nil)))) .nil))))) .nil)))))) (by kernel_rfl) (by kernel_rfl)
 (Eq.mp (by kernel_rfl) h)

/-- sallyport/sallyportref07.Digest -/
def f53 (p0 : Int) (p1 : Sl) (p2 : Sl) (K : Sl → World → Prop) (w : World) : Prop :=
 semS Tryz.prog (Instr.buildSlice 22 0 #[]) (.one .slc) (fun x1 w =>
 semS Tryz.prog (Builtin.append_ #[22, 22] 22 #[(.slice x1.a x1.len x1.cap), (.slice p1.a p1.len p1.cap)]) (.one .slc) (fun r2 w =>
 semS Tryz.prog (Builtin.append_ #[22, 22] 22 #[(.slice r2.a r2.len r2.cap), (.slice p2.a p2.len p2.cap)]) (.one .slc) (fun r3 w =>
 cond (p0 == 1)
 (callS Tryz.prog 79 #[(.slice r3.a r3.len r3.cap)] [(.one .slc)] (fun r4 w =>
 K r4 w) w)
 (callS Tryz.prog 80 #[(.slice r3.a r3.len r3.cap)] [(.one .slc)] (fun r5 w =>
 K r5 w) w)) w) w) w
theorem f53_ok {p0 : Int} {p1 : Sl} {p2 : Sl} {K : Sl → World → Prop} {w : World} (h : f53 p0 p1 p2 K w) : callS Tryz.prog 53 #[(.int .i64 p0), (.slice p1.a p1.len p1.cap), (.slice p2.a p2.len p2.cap)] [(.one .slc)] K w :=
 calls_of_fn (args := [(.int .i64 p0), (.slice p1.a p1.len p1.cap), (.slice p2.a p2.len p2.cap)]) Tryz.f53 [] [] [] .nil (by kernel_rfl) (by kernel_rfl)
 (Eq.mp (by kernel_rfl) h)

def f40_t1 (r7 : Sl) (p2 : Sl) (p3 : Int) (z33 : Int) (K : Bool → World → Prop) (w : World) : Prop :=
 drawS w fun C w =>
 semQ Tryz.prog C (convert 22 9 (.slice r7.a r7.len r7.cap)) (.one .str) (fun x34 =>
 semQ Tryz.prog C (Instr.indexAt 45 (.slice p2.a p2.len p2.cap) (.int .i64 (IntKind.wrap .i64 (p3 + 1)))) (.one .adr) (fun x35 =>
 semQ Tryz.prog C (Instr.loadAt 22 (.pointer (some x35))) (.one .slc) (fun x36 =>
 semQ Tryz.prog C (Instr.sliceAt 22 (.slice x36.a x36.len x36.cap) (some (.int .i64 z33)) (some (.int .i64 (IntKind.wrap .i64 (z33 + (r7.len : Int))))) none) (.one .slc) (fun x37 =>
 semQ Tryz.prog C (convert 22 9 (.slice x37.a x37.len x37.cap)) (.one .str) (fun x38 =>
 K (x34.toList == x38.toList) w)))))

/-- (*sallyport/sallyportref17.R).holds -/
def f40 (p0 : Option Addr) (p1 : Sl) (p2 : Sl) (p3 : Int) (K : Bool → World → Prop) (w : World) : Prop :=
 drawS w fun C w =>
 nilS p0 fun a1 =>
 semQ Tryz.prog C (Instr.loadAt 3 (.pointer (some ((a1.add 1).add 1)))) (.one (.int .i64)) (fun x2 =>
 nilS p0 fun a3 =>
 semQ Tryz.prog C (Instr.loadAt 22 (.pointer (some ((a3.add 1).add 7)))) (.one .slc) (fun x4 =>
 semQ Tryz.prog C (Instr.indexAt 45 (.slice p2.a p2.len p2.cap) (.int .i64 p3)) (.one .adr) (fun x5 =>
 semQ Tryz.prog C (Instr.loadAt 22 (.pointer (some x5))) (.one .slc) (fun x6 =>
 callS Tryz.prog 53 #[(.int .i64 x2), (.slice x4.a x4.len x4.cap), (.slice x6.a x6.len x6.cap)] [(.one .slc)] (fun r7 w =>
 cond (p3 == (IntKind.wrap .i64 ((p1.len : Int) - 1)))
 (drawS w fun C w =>
 semQ Tryz.prog C (convert 22 9 (.slice r7.a r7.len r7.cap)) (.one .str) (fun x8 =>
 nilS p0 fun a9 =>
 semQ Tryz.prog C (Instr.loadAt 22 (.pointer (some ((a9.add 1).add 8)))) (.one .slc) (fun x10 =>
 semQ Tryz.prog C (convert 22 9 (.slice x10.a x10.len x10.cap)) (.one .str) (fun x11 =>
 K (x8.toList == x11.toList) w))))
 (drawS w fun C w =>
 semQ Tryz.prog C (Instr.indexAt 44 (.slice p1.a p1.len p1.cap) (.int .i64 p3)) (.one .adr) (fun x12 =>
 semQ Tryz.prog C (Instr.loadAt 68 (.pointer (some x12))) (.agg [(.int .i64), (.int .i64)]) (fun x13 x14 =>
 (callS Tryz.prog 12 #[(.pointer p0)] [(.agg [(.int .i64), (.int .i64), (.int .i64)])] (fun r15 r16 r17 w =>
 moreS C w (fun C =>
 (callS Tryz.prog 68 #[(.agg #[(.int .i64 r15), (.int .i64 r16), (.int .i64 r17)]), (.agg #[(.int .i64 x13), (.int .i64 x14)])] [(.agg [(.int .i64), (.int .i64)]), (.one (.int .i64))] (fun r18 r19 r20 w =>
 semS Tryz.prog (Instr.alloc 68 true (.tuple #[])) (.one .adr) (fun x21 w =>
 moreS C w (fun C =>
 semU Tryz.prog (Instr.storeAt 68 (.pointer (some x21)) (.agg #[(.int .i64 r18), (.int .i64 r19)])) (fun w =>
 f40_t1 r7 p2 p3 r20 K w) w)) w) w) ∧
 (semS Tryz.prog (Instr.alloc 68 true (.tuple #[])) (.one .adr) (fun x22 w =>
 moreS C w (fun C =>
 callS Tryz.prog 68 #[(.agg #[(.int .i64 r15), (.int .i64 r16), (.int .i64 r17)]), (.agg #[(.int .i64 x13), (.int .i64 x14)])] [(.agg [(.int .i64), (.int .i64)]), (.one (.int .i64))] (fun r23 r24 r25 w =>
 semU Tryz.prog (Instr.storeAt 68 (.pointer (some x22)) (.agg #[(.int .i64 r23), (.int .i64 r24)])) (fun w =>
 f40_t1 r7 p2 p3 r25 K w) w) w)) w))) w) ∧
 (semS Tryz.prog (Instr.alloc 68 true (.tuple #[])) (.one .adr) (fun x26 w =>
 moreS C w (fun C =>
 callS Tryz.prog 12 #[(.pointer p0)] [(.agg [(.int .i64), (.int .i64), (.int .i64)])] (fun r27 r28 r29 w =>
 moreS C w (fun C =>
 callS Tryz.prog 68 #[(.agg #[(.int .i64 r27), (.int .i64 r28), (.int .i64 r29)]), (.agg #[(.int .i64 x13), (.int .i64 x14)])] [(.agg [(.int .i64), (.int .i64)]), (.one (.int .i64))] (fun r30 r31 r32 w =>
 semU Tryz.prog (Instr.storeAt 68 (.pointer (some x26)) (.agg #[(.int .i64 r30), (.int .i64 r31)])) (fun w =>
 f40_t1 r7 p2 p3 r32 K w) w) w)) w)) w))))) w))))
theorem f40_ok {p0 : Option Addr} {p1 : Sl} {p2 : Sl} {p3 : Int} {K : Bool → World → Prop} {w : World} (h : f40 p0 p1 p2 p3 K w) : callS Tryz.prog 40 #[(.pointer p0), (.slice p1.a p1.len p1.cap), (.slice p2.a p2.len p2.cap), (.int .i64 p3)] [(.one .bool)] K w :=
 calls_of_fn (args := [(.pointer p0), (.slice p1.a p1.len p1.cap), (.slice p2.a p2.len p2.cap), (.int .i64 p3)]) Tryz.f40 [] [] [] (.two .nil (.two (.draw [0, 1, 3, 7, 15, 0, 32, 96, 224, 480, 0, 0, 3072, 7168, 16383, 32767]) (.two (.two .nil (.two (.two (.draw [0, 1, 0, 4, 12, 28, 60, 124, 255, 511]) .nil) .nil)) (.two (.draw [0, 1, 0, 0, 12, 28, 63, 127, 255, 255, 0, 1535, 4095]) (.two (.draw [0, 1, 0, 0, 8, 28, 60, 0, 0, 0, 512, 1792, 4092, 8188, 16383, 32767]) .nil))))) (by kernel_rfl) (by kernel_rfl)
 (Eq.mp (by kernel_rfl) h)

/-- (*sallyport/sallyportref17.R).Read -/
def f15 (p0 : Option Addr) (p1 : Sl) (p2 : Int) (K : Sl → Int → World → Prop) (w : World) : Prop :=
 nilS p0 fun a1 =>
 semU Tryz.prog (Instr.storeAt 45 (.pointer (some (a1.add 16))) (.slice none 0 0)) (fun w =>
 nilS p0 fun a2 =>
 semS Tryz.prog (Instr.loadAt 4 (.pointer (some (a2.add 15)))) (.one .bool) (fun x3 w =>
 cond x3
 (K (⟨none, 0, 0⟩) 58 w)
 (joinS (σ := Bool) (fun b4 w =>
 cond b4
 (K (⟨none, 0, 0⟩) 13 w)
 (callS Tryz.prog 37 #[(.pointer p0), (.int .i64 p2)] [(.one .slc)] (fun r6 w =>
 loopS (σ := Sl × Int) (fun s7 w again8 =>
 joinS (σ := Bool) (fun b9 w =>
 cond b9
 (semS Tryz.prog (Instr.indexAt 44 (.slice r6.a r6.len r6.cap) (.int .i64 s7.2)) (.one .adr) (fun x11 w =>
 semS Tryz.prog (Instr.loadAt 68 (.pointer (some x11))) (.agg [(.int .i64), (.int .i64)]) (fun x12 x13 w =>
 callS Tryz.prog 39 #[(.pointer p0), (.slice p1.a p1.len p1.cap), (.agg #[(.int .i64 x12), (.int .i64 x13)])] [(.one .slc), (.one (.int .i64))] (fun r14 r15 w =>
 cond (r15 != 0)
 (K (⟨none, 0, 0⟩) r15 w)
 (semS Tryz.prog (Instr.buildSlice 45 1 #[(0, (.slice r14.a r14.len r14.cap))]) (.one .slc) (fun x16 w =>
 semS Tryz.prog (Builtin.append_ #[45, 45] 45 #[(.slice s7.1.a s7.1.len s7.1.cap), (.slice x16.a x16.len x16.cap)]) (.one .slc) (fun r17 w =>
 again8 (r17, IntKind.wrap .i64 (s7.2 + 1)) w) w) w)) w) w) w)
 (loopS (σ := Sl × Int) (fun s18 w again19 =>
 cond (decide (s18.2 < (r6.len : Int)))
 (drawS w fun C w =>
 nilS p0 fun a20 =>
 semQ Tryz.prog C (Instr.loadAt 45 (.pointer (some (a20.add 14)))) (.one .slc) (fun x21 =>
 semQ Tryz.prog C (Instr.indexAt 44 (.slice r6.a r6.len r6.cap) (.int .i64 s18.2)) (.one .adr) (fun x22 =>
 semQ Tryz.prog C (Instr.loadAt 68 (.pointer (some x22))) (.agg [(.int .i64), (.int .i64)]) (fun x23 x24 =>
 callS Tryz.prog 38 #[(.pointer p0), (.agg #[(.int .i64 x23), (.int .i64 x24)])] [(.one (.int .i64))] (fun r25 w =>
 moreS C w (fun C =>
 semQ Tryz.prog C (Instr.indexAt 45 (.slice x21.a x21.len x21.cap) (.int .i64 r25)) (.one .adr) (fun x26 =>
 semQ Tryz.prog C (Instr.loadAt 22 (.pointer (some x26))) (.one .slc) (fun x27 =>
 semS Tryz.prog (Instr.buildSlice 45 1 #[(0, (.slice x27.a x27.len x27.cap))]) (.one .slc) (fun x28 w =>
 semS Tryz.prog (Builtin.append_ #[45, 45] 45 #[(.slice s18.1.a s18.1.len s18.1.cap), (.slice x28.a x28.len x28.cap)]) (.one .slc) (fun r29 w =>
 again19 (r29, IntKind.wrap .i64 (s18.2 + 1)) w) w) w)))) w))))
 (loopS (σ := Int) (fun x30 w again31 =>
 cond (decide (x30 ≥ 0))
 (callS Tryz.prog 40 #[(.pointer p0), (.slice r6.a r6.len r6.cap), (.slice s18.1.a s18.1.len s18.1.cap), (.int .i64 x30)] [(.one .bool)] (fun r32 w =>
 cond (!r32)
 (nilS p0 fun a33 =>
 semS Tryz.prog (Instr.loadAt 3 (.pointer (some (a33.add 12)))) (.one (.int .i64)) (fun x34 w =>
 nilS p0 fun a35 =>
 semU Tryz.prog (Instr.storeAt 4 (.pointer (some (a35.add 15))) (.bool (x34 == 1))) (fun w =>
 K (⟨none, 0, 0⟩) 54 w) w) w)
 (again31 (IntKind.wrap .i64 (x30 - 1)) w)) w)
 (loopS (σ := Int) (fun x36 w again37 =>
 joinS (σ := Bool) (fun b38 w =>
 cond b38
 (drawS w fun C w =>
 nilS p0 fun a40 =>
 semQ Tryz.prog C (Instr.loadAt 44 (.pointer (some (a40.add 13)))) (.one .slc) (fun x41 =>
 semQ Tryz.prog C (Instr.indexAt 44 (.slice r6.a r6.len r6.cap) (.int .i64 x36)) (.one .adr) (fun x42 =>
 semQ Tryz.prog C (Instr.loadAt 68 (.pointer (some x42))) (.agg [(.int .i64), (.int .i64)]) (fun x43 x44 =>
 semS Tryz.prog (Instr.buildSlice 44 1 #[(0, (.agg #[(.int .i64 x43), (.int .i64 x44)]))]) (.one .slc) (fun x45 w =>
 moreS C w (fun C =>
 semS Tryz.prog (Builtin.append_ #[44, 44] 44 #[(.slice x41.a x41.len x41.cap), (.slice x45.a x45.len x45.cap)]) (.one .slc) (fun r46 w =>
 nilS p0 fun a47 =>
 semU Tryz.prog (Instr.storeAt 44 (.pointer (some (a47.add 13))) (.slice r46.a r46.len r46.cap)) (fun w =>
 drawS w fun C w =>
 nilS p0 fun a48 =>
 semQ Tryz.prog C (Instr.loadAt 45 (.pointer (some (a48.add 14)))) (.one .slc) (fun x49 =>
 semQ Tryz.prog C (Instr.indexAt 45 (.slice s18.1.a s18.1.len s18.1.cap) (.int .i64 x36)) (.one .adr) (fun x50 =>
 semQ Tryz.prog C (Instr.loadAt 22 (.pointer (some x50))) (.one .slc) (fun x51 =>
 semS Tryz.prog (Instr.buildSlice 45 1 #[(0, (.slice x51.a x51.len x51.cap))]) (.one .slc) (fun x52 w =>
 moreS C w (fun C =>
 semS Tryz.prog (Builtin.append_ #[45, 45] 45 #[(.slice x49.a x49.len x49.cap), (.slice x52.a x52.len x52.cap)]) (.one .slc) (fun r53 w =>
 nilS p0 fun a54 =>
 semU Tryz.prog (Instr.storeAt 45 (.pointer (some (a54.add 14))) (.slice r53.a r53.len r53.cap)) (fun w =>
 again37 (IntKind.wrap .i64 (x36 - 1)) w) w) w)) w)))) w) w)) w))))
 (nilS p0 fun a55 =>
 semU Tryz.prog (Instr.storeAt 45 (.pointer (some (a55.add 16))) (.slice s18.1.a s18.1.len s18.1.cap)) (fun w =>
 semS Tryz.prog (Instr.indexAt 45 (.slice s18.1.a s18.1.len s18.1.cap) (.int .i64 0)) (.one .adr) (fun x56 w =>
 semS Tryz.prog (Instr.loadAt 22 (.pointer (some x56))) (.one .slc) (fun x57 w =>
 K x57 0 w) w) w) w)) fun J39 =>
 cond (decide (x36 ≥ 1))
 (nilS p0 fun a58 =>
 semS Tryz.prog (Instr.loadAt 44 (.pointer (some (a58.add 13)))) (.one .slc) (fun x59 w =>
 J39 (decide ((x59.len : Int) < 64)) w) w)
 (J39 false w)) (IntKind.wrap .i64 (s7.2 - 1)) w)) (IntKind.wrap .i64 (s7.2 - 1)) w)) (s7.1, s7.2) w)) fun J10 =>
 cond (decide (s7.2 < (r6.len : Int)))
 (semS Tryz.prog (Instr.indexAt 44 (.slice r6.a r6.len r6.cap) (.int .i64 s7.2)) (.one .adr) (fun x60 w =>
 semS Tryz.prog (Instr.loadAt 68 (.pointer (some x60))) (.agg [(.int .i64), (.int .i64)]) (fun x61 x62 w =>
 callS Tryz.prog 38 #[(.pointer p0), (.agg #[(.int .i64 x61), (.int .i64 x62)])] [(.one (.int .i64))] (fun r63 w =>
 J10 (decide (r63 < 0)) w) w) w) w)
 (J10 false w)) (⟨none, 0, 0⟩, 0) w) w)) fun J5 =>
 cond (decide (p2 < 0))
 (J5 true w)
 (callS Tryz.prog 12 #[(.pointer p0)] [(.agg [(.int .i64), (.int .i64), (.int .i64)])] (fun r64 r65 r66 w =>
 callS Tryz.prog 13 #[(.agg #[(.int .i64 r64), (.int .i64 r65), (.int .i64 r66)])] [(.one .slc)] (fun r67 w =>
 semS Tryz.prog (Instr.indexAt 49 (.slice r67.a r67.len r67.cap) (.int .i64 0)) (.one .adr) (fun x68 w =>
 semS Tryz.prog (Instr.loadAt 3 (.pointer (some x68))) (.one (.int .i64)) (fun x69 w =>
 J5 (decide (p2 ≥ x69)) w) w) w) w) w))) w) w
theorem f15_ok {p0 : Option Addr} {p1 : Sl} {p2 : Int} {K : Sl → Int → World → Prop} {w : World} (h : f15 p0 p1 p2 K w) : callS Tryz.prog 15 #[(.pointer p0), (.slice p1.a p1.len p1.cap), (.int .i64 p2)] [(.one .slc), (.one (.int .i64))] K w :=
 calls_of_fn (args := [(.pointer p0), (.slice p1.a p1.len p1.cap), (.int .i64 p2)]) Tryz.f15 [] [] [] (.two .nil (.two .nil (.two .nil (.two .nil (.two .nil (.two .nil (.two .nil (.two (.one (.loop [(9, .slc), (10, (.int .i64))] .nil)) (.two (.two .nil (.one (.loop [(9, .slc), (13, (.int .i64))] (.two .nil (.two (.one (.draw [0, 0, 2, 6, 14, 0, 0, 0, 192, 448, 992, 2046, 4094, 8190, 16383, 32767])) .nil))))) (.two (.two .nil (.one (.loop [(14, (.int .i64))] .nil))) (.two (.two .nil (.one (.loop [(15, (.int .i64))] (.two .nil (.two (.one (.two (.draw [0, 0, 2, 6, 14, 0, 0, 96, 224, 480, 1022, 2047, 4095, 8191]) (.draw [0, 0, 2, 6, 14, 0, 0, 96, 224, 480, 1022, 2047, 4095, 8191]))) .nil))))) .nil))))))))))) (by kernel_rfl) (by kernel_rfl)
 (Eq.mp (by kernel_rfl) h)

/-- (*sallyport/verity.Reader).Broken -/
def f17 (p0 : Option Addr) (K : Bool → World → Prop) (w : World) : Prop :=
 nilS p0 fun a1 =>
 semS Tryz.prog (Instr.loadAt 4 (.pointer (some (a1.add 19)))) (.one .bool) (fun x2 w =>
 K x2 w) w
theorem f17_ok {p0 : Option Addr} {K : Bool → World → Prop} {w : World} (h : f17 p0 K w) : callS Tryz.prog 17 #[(.pointer p0)] [(.one .bool)] K w :=
 calls_of_fn (args := [(.pointer p0)]) Tryz.f17 [] [] [] .nil (by kernel_rfl) (by kernel_rfl)
 (Eq.mp (by kernel_rfl) h)

/-- sallyport/sallyportlaw17.bytes -/
def f18 (p0 : Sl) (p1 : Sl) (K : Bool → World → Prop) (w : World) : Prop :=
 cond ((p0.len : Int) != (p1.len : Int))
 (K false w)
 (loopS (σ := Int) (fun x1 w again2 =>
 cond (decide (x1 < (p0.len : Int)))
 (semS Tryz.prog (Instr.indexAt 45 (.slice p0.a p0.len p0.cap) (.int .i64 x1)) (.one .adr) (fun x3 w =>
 semS Tryz.prog (Instr.loadAt 22 (.pointer (some x3))) (.one .slc) (fun x4 w =>
 drawS w fun C w =>
 semQ Tryz.prog C (convert 22 9 (.slice x4.a x4.len x4.cap)) (.one .str) (fun x5 =>
 semQ Tryz.prog C (Instr.indexAt 45 (.slice p1.a p1.len p1.cap) (.int .i64 x1)) (.one .adr) (fun x6 =>
 semQ Tryz.prog C (Instr.loadAt 22 (.pointer (some x6))) (.one .slc) (fun x7 =>
 semQ Tryz.prog C (convert 22 9 (.slice x7.a x7.len x7.cap)) (.one .str) (fun x8 =>
 cond (!(x5.toList == x8.toList))
 (K false w)
 (again2 (IntKind.wrap .i64 (x1 + 1)) w)))))) w) w)
 (K true w)) 0 w)
theorem f18_ok {p0 : Sl} {p1 : Sl} {K : Bool → World → Prop} {w : World} (h : f18 p0 p1 K w) : callS Tryz.prog 18 #[(.slice p0.a p0.len p0.cap), (.slice p1.a p1.len p1.cap)] [(.one .bool)] K w :=
 calls_of_fn (args := [(.slice p0.a p0.len p0.cap), (.slice p1.a p1.len p1.cap)]) Tryz.f18 [] [] [] (.two .nil (.two .nil (.two (.two .nil (.one (.loop [(14, (.int .i64))] (.two .nil (.two .nil (.two (.one (.two .nil (.two (.draw [0, 1, 0, 0, 12, 28, 60, 127]) .nil))) .nil)))))) .nil))) (by kernel_rfl) (by kernel_rfl)
 (Eq.mp (by kernel_rfl) h)

/-- (sallyport/sallyportref08.Place).Number -/
def f21 (p0_0 : Int) (p0_1 : Int) (K : Cx → World → Prop) (w : World) : Prop :=
 semS Tryz.prog (Instr.box 68 (.agg #[(.int .i64 p0_0), (.int .i64 p0_1)])) (.one .adr) (fun x1 w =>
 semS Tryz.prog (Instr.loadAt 3 (.pointer (some (x1.add 0)))) (.one (.int .i64)) (fun x2 w =>
 semS Tryz.prog (Instr.loadAt 3 (.pointer (some (x1.add 1)))) (.one (.int .i64)) (fun x3 w =>
 K (⟨FloatKind.nearest .f64 x2, FloatKind.nearest .f64 x3⟩) w) w) w) w
theorem f21_ok {p0_0 : Int} {p0_1 : Int} {K : Cx → World → Prop} {w : World} (h : f21 p0_0 p0_1 K w) : callS Tryz.prog 21 #[(.agg #[(.int .i64 p0_0), (.int .i64 p0_1)])] [(.one .cpx)] K w :=
 calls_of_fn (args := [(.agg #[(.int .i64 p0_0), (.int .i64 p0_1)])]) Tryz.f21 [] [] [] .nil (by kernel_rfl) (by kernel_rfl)
 (Eq.mp (by kernel_rfl) h)

def f3_t1 (z113 : Bool) (K : Bool → World → Prop) (r104 : Sl) (r40 : Option Addr) (x77 : Addr) (again86 : Int → World → Prop) (x85 : Int) (w : World) : Prop :=
 cond z113
 (K false w)
 (loopS (σ := Int) (fun x114 w again115 =>
 cond (decide (x114 < (r104.len : Int)))
 (semS Tryz.prog (Instr.indexAt 22 (.slice r104.a r104.len r104.cap) (.int .i64 x114)) (.one .adr) (fun x116 w =>
 semS Tryz.prog (Instr.loadAt 5 (.pointer (some x116))) (.one (.int .u8)) (fun x117 w =>
 semS Tryz.prog (Instr.indexAt 22 (.slice r104.a r104.len r104.cap) (.int .i64 x114)) (.one .adr) (fun x118 w =>
 semU Tryz.prog (Instr.storeAt 5 (.pointer (some x118)) (.int .u8 (xorI .u8 x117 255))) (fun w =>
 again115 (IntKind.wrap .i64 (x114 + 1)) w) w) w) w) w)
 (callS Tryz.prog 20 #[(.pointer r40)] [(.one .slc)] (fun r119 w =>
 semS Tryz.prog (Instr.loadAt 44 (.pointer (some (x77.add 13)))) (.one .slc) (fun x120 w =>
 cond ((r119.len : Int) != (x120.len : Int))
 (K false w)
 (loopS (σ := Int) (fun x121 w again122 =>
 cond (decide (x121 < (r119.len : Int)))
 (semS Tryz.prog (Instr.indexAt 64 (.slice r119.a r119.len r119.cap) (.int .i64 x121)) (.one .adr) (fun x123 w =>
 semS Tryz.prog (Instr.loadAt 66 (.pointer (some x123))) (.one .cpx) (fun x124 w =>
 semS Tryz.prog (Instr.loadAt 44 (.pointer (some (x77.add 13)))) (.one .slc) (fun x125 w =>
 semS Tryz.prog (Instr.indexAt 44 (.slice x125.a x125.len x125.cap) (.int .i64 x121)) (.one .adr) (fun x126 w =>
 semS Tryz.prog (Instr.loadAt 68 (.pointer (some x126))) (.agg [(.int .i64), (.int .i64)]) (fun x127 x128 w =>
 callS Tryz.prog 21 #[(.agg #[(.int .i64 x127), (.int .i64 x128)])] [(.one .cpx)] (fun r129 w =>
 cond (!(fcEq x124.re r129.re && fcEq x124.im r129.im))
 (K false w)
 (again122 (IntKind.wrap .i64 (x121 + 1)) w)) w) w) w) w) w) w)
 (again86 (IntKind.wrap .i64 (x85 + 1)) w)) 0 w)) w) w)) 0 w)

/-- sallyport/sallyportlaw17.VerityPlays -/
def f3 (p0_0 : Int) (p0_1 : Int) (p0_2 : Int) (p0_3 : Sl) (p0_4 : Sl) (p1 : Sl) (K : Bool → World → Prop) (w : World) : Prop :=
 semS Tryz.prog (Instr.box 24 (.agg #[(.int .i64 p0_0), (.int .i64 p0_1), (.int .i64 p0_2), (.slice p0_3.a p0_3.len p0_3.cap), (.slice p0_4.a p0_4.len p0_4.cap)])) (.one .adr) (fun x1 w =>
 callS Tryz.prog 5 #[] [(.one .bool)] (fun r2 w =>
 cond (!r2)
 (K false w)
 (semS Tryz.prog (Instr.loadAt 24 (.pointer (some x1))) (.agg [(.int .i64), (.int .i64), (.int .i64), .slc, .slc]) (fun x3 x4 x5 x6 x7 w =>
 callS Tryz.prog 6 #[(.agg #[(.int .i64 x3), (.int .i64 x4), (.int .i64 x5), (.slice x6.a x6.len x6.cap), (.slice x7.a x7.len x7.cap)])] [(.one .bool)] (fun r8 w =>
 cond ((!r8) || (decide ((p1.len : Int) > 60)))
 (K true w)
 (semS Tryz.prog (Instr.loadAt 24 (.pointer (some x1))) (.agg [(.int .i64), (.int .i64), (.int .i64), .slc, .slc]) (fun x9 x10 x11 x12 x13 w =>
 callS Tryz.prog 7 #[(.agg #[(.int .i64 x9), (.int .i64 x10), (.int .i64 x11), (.slice x12.a x12.len x12.cap), (.slice x13.a x13.len x13.cap)])] [(.one .ptr), (.agg [(.int .i64), (.int .i64), (.int .i64), (.int .i64), (.int .i64), (.int .i64), .str, .slc, .slc, .slc, .slc])] (fun r14 r15 r16 r17 r18 r19 r20 r21 r22 r23 r24 r25 w =>
 semS Tryz.prog (Instr.alloc 29 true (.tuple #[])) (.one .adr) (fun x26 w =>
 semU Tryz.prog (Instr.storeAt 29 (.pointer (some x26)) (.agg #[(.int .i64 r15), (.int .i64 r16), (.int .i64 r17), (.int .i64 r18), (.int .i64 r19), (.int .i64 r20), (.string r21), (.slice r22.a r22.len r22.cap), (.slice r23.a r23.len r23.cap), (.slice r24.a r24.len r24.cap), (.slice r25.a r25.len r25.cap)])) (fun w =>
 semS Tryz.prog (binS .eql 27 (.tmp 36) (.const (Go.Value.pointer none)) (.pointer r14) (.pointer none)) (.one .bool) (fun x27 w =>
 cond x27
 (K true w)
 (semS Tryz.prog (Instr.loadAt 29 (.pointer (some x26))) (.agg [(.int .i64), (.int .i64), (.int .i64), (.int .i64), (.int .i64), (.int .i64), .str, .slc, .slc, .slc, .slc]) (fun x28 x29 x30 x31 x32 x33 x34 x35 x36 x37 x38 w =>
 semS Tryz.prog (Instr.loadAt 3 (.pointer (some (x1.add 2)))) (.one (.int .i64)) (fun x39 w =>
 callS Tryz.prog 8 #[(.pointer r14), (.string (ByteArray.mk #[112])), (.agg #[(.int .i64 x28), (.int .i64 x29), (.int .i64 x30), (.int .i64 x31), (.int .i64 x32), (.int .i64 x33), (.string x34), (.slice x35.a x35.len x35.cap), (.slice x36.a x36.len x36.cap), (.slice x37.a x37.len x37.cap), (.slice x38.a x38.len x38.cap)]), (.int .i64 x39)] [(.one .ptr), (.one (.int .i64))] (fun r40 r41 w =>
 semS Tryz.prog (Instr.loadAt 3 (.pointer (some (x1.add 2)))) (.one (.int .i64)) (fun x42 w =>
 joinS (σ := Bool) (fun b43 w =>
 cond b43
 (joinS (σ := Bool) (fun b45 w =>
 K b45 w) fun J46 =>
 cond (r41 == 12)
 (semS Tryz.prog (binS .eql 32 (.tmp 57) (.const (Go.Value.pointer none)) (.pointer r40) (.pointer none)) (.one .bool) (fun x47 w =>
 J46 x47 w) w)
 (J46 false w))
 (joinS (σ := Bool) (fun b48 w =>
 cond b48
 (K false w)
 (callS Tryz.prog 9 #[(.pointer r14)] [(.agg [.str, .slc, .slc])] (fun r50 r51 r52 w =>
 semS Tryz.prog (Instr.buildSlice 40 1 #[(0, (.agg #[(.string r50), (.slice r51.a r51.len r51.cap), (.slice r52.a r52.len r52.cap)]))]) (.one .slc) (fun x53 w =>
 drawS w fun C w =>
 semQ Tryz.prog C (Instr.loadAt 29 (.pointer (some x26))) (.agg [(.int .i64), (.int .i64), (.int .i64), (.int .i64), (.int .i64), (.int .i64), .str, .slc, .slc, .slc, .slc]) (fun x54 x55 x56 x57 x58 x59 x60 x61 x62 x63 x64 =>
 semQ Tryz.prog C (Instr.loadAt 3 (.pointer (some (x1.add 2)))) (.one (.int .i64)) (fun x65 =>
 callS Tryz.prog 10 #[(.agg #[(.int .i64 x54), (.int .i64 x55), (.int .i64 x56), (.int .i64 x57), (.int .i64 x58), (.int .i64 x59), (.string x60), (.slice x61.a x61.len x61.cap), (.slice x62.a x62.len x62.cap), (.slice x63.a x63.len x63.cap), (.slice x64.a x64.len x64.cap)])] [(.agg [(.int .i64), (.int .i64), (.int .i64), (.int .i64), (.int .i64), (.int .i64), .str, .slc, .slc, .slc, .slc])] (fun r66 r67 r68 r69 r70 r71 r72 r73 r74 r75 r76 w =>
 moreS C w (fun C =>
 semS Tryz.prog (Instr.box 47 (.agg #[(.string (ByteArray.mk #[112])), (.int .i64 r66), (.int .i64 r67), (.int .i64 r68), (.int .i64 r69), (.int .i64 r70), (.int .i64 r71), (.string r72), (.slice r73.a r73.len r73.cap), (.slice r74.a r74.len r74.cap), (.slice r75.a r75.len r75.cap), (.slice r76.a r76.len r76.cap), (.int .i64 x65), (.slice none 0 0), (.slice none 0 0), (.bool false), (.slice none 0 0)])) (.one .adr) (fun x77 w =>
 callS Tryz.prog 11 #[(.pointer r40)] [(.one (.int .i64))] (fun r78 w =>
 callS Tryz.prog 12 #[(.pointer (some x77))] [(.agg [(.int .i64), (.int .i64), (.int .i64)])] (fun r79 r80 r81 w =>
 callS Tryz.prog 13 #[(.agg #[(.int .i64 r79), (.int .i64 r80), (.int .i64 r81)])] [(.one .slc)] (fun r82 w =>
 semS Tryz.prog (Instr.indexAt 49 (.slice r82.a r82.len r82.cap) (.int .i64 0)) (.one .adr) (fun x83 w =>
 semS Tryz.prog (Instr.loadAt 3 (.pointer (some x83))) (.one (.int .i64)) (fun x84 w =>
 cond (r78 != x84)
 (K false w)
 (loopS (σ := Int) (fun x85 w again86 =>
 cond (decide (x85 < (p1.len : Int)))
 (semS Tryz.prog (Instr.indexAt 25 (.slice p1.a p1.len p1.cap) (.int .i64 x85)) (.one .adr) (fun x87 w =>
 semS Tryz.prog (Instr.loadAt 55 (.pointer (some x87))) (.agg [(.int .i64), (.int .i64), .slc, .bool]) (fun x88 x89 x90 x91 w =>
 semS Tryz.prog (Instr.alloc 55 true (.tuple #[])) (.one .adr) (fun x92 w =>
 semU Tryz.prog (Instr.storeAt 55 (.pointer (some x92)) (.agg #[(.int .i64 x88), (.int .i64 x89), (.slice x90.a x90.len x90.cap), (.bool x91)])) (fun w =>
 semS Tryz.prog (Instr.loadAt 22 (.pointer (some (x92.add 2)))) (.one .slc) (fun x93 w =>
 cond (decide ((x93.len : Int) > 300))
 (K true w)
 (semS Tryz.prog (Instr.loadAt 3 (.pointer (some (x92.add 0)))) (.one (.int .i64)) (fun x94 w =>
 cond (x94 != 1)
 (drawS w fun C w =>
 semQ Tryz.prog C (Instr.indexAt 40 (.slice x53.a x53.len x53.cap) (.int .i64 0)) (.one .adr) (fun x95 =>
 semQ Tryz.prog C (Instr.loadAt 55 (.pointer (some x92))) (.agg [(.int .i64), (.int .i64), .slc, .bool]) (fun x96 x97 x98 x99 =>
 callS Tryz.prog 14 #[(.pointer r14), (.pointer (some x95)), (.agg #[(.int .i64 x96), (.int .i64 x97), (.slice x98.a x98.len x98.cap), (.bool x99)])] [] (fun w =>
 again86 (IntKind.wrap .i64 (x85 + 1)) w) w)))
 (semS Tryz.prog (Instr.loadAt 3 (.pointer (some (x92.add 1)))) (.one (.int .i64)) (fun x100 w =>
 callS Tryz.prog 15 #[(.pointer (some x77)), (.slice x53.a x53.len x53.cap), (.int .i64 x100)] [(.one .slc), (.one (.int .i64))] (fun r101 r102 w =>
 semS Tryz.prog (Instr.loadAt 3 (.pointer (some (x92.add 1)))) (.one (.int .i64)) (fun x103 w =>
 callS Tryz.prog 16 #[(.pointer r40), (.int .i64 x103)] [(.one .slc), (.one (.int .i64))] (fun r104 r105 w =>
 drawS w fun C w =>
 cond (r105 != r102)
 (f3_t1 true K r104 r40 x77 again86 x85 w)
 (semQ Tryz.prog C (convert 22 9 (.slice r104.a r104.len r104.cap)) (.one .str) (fun x106 =>
 semQ Tryz.prog C (convert 22 9 (.slice r101.a r101.len r101.cap)) (.one .str) (fun x107 =>
 cond (!(x106.toList == x107.toList))
 (f3_t1 true K r104 r40 x77 again86 x85 w)
 (semQ Tryz.prog C (Instr.loadAt 4 (.pointer (some (x77.add 15)))) (.one .bool) (fun x108 =>
 callS Tryz.prog 17 #[(.pointer r40)] [(.one .bool)] (fun r109 w =>
 moreS C w (fun C =>
 cond (!(r109 == x108))
 (f3_t1 true K r104 r40 x77 again86 x85 w)
 (semQ Tryz.prog C (Instr.loadAt 45 (.pointer (some (x77.add 16)))) (.one .slc) (fun x110 =>
 callS Tryz.prog 19 #[(.pointer r40)] [(.one .slc)] (fun r111 w =>
 moreS C w (fun C =>
 callS Tryz.prog 18 #[(.slice r111.a r111.len r111.cap), (.slice x110.a x110.len x110.cap)] [(.one .bool)] (fun r112 w =>
 f3_t1 (!r112) K r104 r40 x77 again86 x85 w) w)) w)))) w)))))) w) w) w) w)) w)) w) w) w) w) w)
 (K true w)) 0 w)) w) w) w) w) w) w)) w))) w) w)) fun J49 =>
 cond (r41 != 0)
 (J49 true w)
 (semS Tryz.prog (binS .eql 32 (.tmp 63) (.const (Go.Value.pointer none)) (.pointer r40) (.pointer none)) (.one .bool) (fun x130 w =>
 J49 x130 w) w))) fun J44 =>
 cond (decide (x42 < 0))
 (J44 true w)
 (semS Tryz.prog (Instr.loadAt 3 (.pointer (some (x1.add 2)))) (.one (.int .i64)) (fun x131 w =>
 J44 (decide (x131 > 1)) w) w)) w) w) w) w)) w) w) w) w) w)) w) w)) w) w
theorem f3_ok {p0_0 : Int} {p0_1 : Int} {p0_2 : Int} {p0_3 : Sl} {p0_4 : Sl} {p1 : Sl} {K : Bool → World → Prop} {w : World} (h : f3 p0_0 p0_1 p0_2 p0_3 p0_4 p1 K w) : callS Tryz.prog 3 #[(.agg #[(.int .i64 p0_0), (.int .i64 p0_1), (.int .i64 p0_2), (.slice p0_3.a p0_3.len p0_3.cap), (.slice p0_4.a p0_4.len p0_4.cap)]), (.slice p1.a p1.len p1.cap)] [(.one .bool)] K w :=
 calls_of_fn (args := [(.agg #[(.int .i64 p0_0), (.int .i64 p0_1), (.int .i64 p0_2), (.slice p0_3.a p0_3.len p0_3.cap), (.slice p0_4.a p0_4.len p0_4.cap)]), (.slice p1.a p1.len p1.cap)]) Tryz.f3 [] [] [] (.two .nil (.two .nil (.two .nil (.two .nil (.two .nil (.two .nil (.two .nil (.two .nil (.two .nil (.two (.draw [0, 1, 0, 4, 15, 31, 63]) (.two .nil (.two (.two .nil (.one (.loop [(85, (.int .i64))] (.two .nil (.two .nil (.two (.one (.two .nil (.two .nil (.two (.two .nil (.two (.two (.draw [0, 0, 2, 0, 15]) .nil) .nil)) (.two .nil (.two .nil (.two (.two (.draw [0, 0, 3, 7, 15, 31, 15, 79, 255, 511, 1023, 2047, 4095, 2047, 10239, 26623, 59391, 131071, 262143, 524287, 1048575, 2097151, 1048575, 5242879, 13631487, 30408703, 67108863, 134217727, 268435455]) .nil) (.two (.two .nil (.one (.loop [(147, (.int .i64))] .nil))) (.two .nil (.two .nil (.two .nil (.one (.loop [(169, (.int .i64))] .nil))))))))))))) .nil)))))) .nil)))))))))))) (by kernel_rfl) (by kernel_rfl)
 (Eq.mp (by kernel_rfl) h)

/-- slices.IndexFunc[[][]byte,[]byte] -/
def f73 (p0 : Sl) (p1 : Value) (K : Int → World → Prop) (w : World) : Prop :=
 loopS (σ := Int) (fun x1 w again2 =>
 cond (decide (x1 < (p0.len : Int)))
 (semS Tryz.prog (Instr.indexAt 45 (.slice p0.a p0.len p0.cap) (.int .i64 x1)) (.one .adr) (fun x3 w =>
 semS Tryz.prog (Instr.loadAt 22 (.pointer (some x3))) (.one .slc) (fun x4 w =>
 callY Tryz.prog (callSem p1 #[(.slice x4.a x4.len x4.cap)]) [(.one .bool)] (fun r5 w =>
 cond r5
 (K x1 w)
 (again2 (IntKind.wrap .i64 (x1 + 1)) w)) w) w) w)
 (K (-1) w)) 0 w
theorem f73_ok {p0 : Sl} {p1 : Value} {K : Int → World → Prop} {w : World} (h : f73 p0 p1 K w) : callS Tryz.prog 73 #[(.slice p0.a p0.len p0.cap), p1] [(.one (.int .i64))] K w :=
 calls_of_fn (args := [(.slice p0.a p0.len p0.cap), p1]) Tryz.f73 [1, 11] [] [] (.two .nil (.two (.two .nil (.one (.loop [(8, (.int .i64))] .nil))) .nil)) (by kernel_rfl) (by kernel_rfl)
 (Eq.mp (by kernel_rfl) h)

/-- slices.ContainsFunc[[][]byte,[]byte] -/
def f46 (p0 : Sl) (p1 : Value) (K : Bool → World → Prop) (w : World) : Prop :=
 callS Tryz.prog 73 #[(.slice p0.a p0.len p0.cap), p1] [(.one (.int .i64))] (fun r1 w =>
 K (decide (r1 ≥ 0)) w) w
theorem f46_ok {p0 : Sl} {p1 : Value} {K : Bool → World → Prop} {w : World} (h : f46 p0 p1 K w) : callS Tryz.prog 46 #[(.slice p0.a p0.len p0.cap), p1] [(.one .bool)] K w :=
 calls_of_fn (args := [(.slice p0.a p0.len p0.cap), p1]) Tryz.f46 [1, 6] [] [] .nil (by kernel_rfl) (by kernel_rfl)
 (Eq.mp (by kernel_rfl) h)

/-- sallyport/grove.Climb$1 -/
def f47 (p0 : Sl) (c0 : Addr) (K : Bool → World → Prop) (w : World) : Prop :=
 semS Tryz.prog (Instr.loadAt 3 (.pointer (some (c0.add 1)))) (.one (.int .i64)) (fun x1 w =>
 K ((p0.len : Int) != x1) w) w
theorem f47_ok {p0 : Sl} {c0 : Addr} {K : Bool → World → Prop} {w : World} (h : f47 p0 c0 K w) : callS Tryz.prog 47 #[(.slice p0.a p0.len p0.cap), (.pointer (some c0))] [(.one .bool)] K w :=
 calls_of_fn (args := [(.slice p0.a p0.len p0.cap), (.pointer (some c0))]) Tryz.f47 [] [] [] .nil (by kernel_rfl) (by kernel_rfl)
 (Eq.mp (by kernel_rfl) h)

/-- sallyport/grove.Climb -/
def f23 (p0 : Int) (p1 : Sl) (p2_0 : Int) (p2_1 : Int) (p2_2 : Int) (p3 : Int) (p4 : Sl) (p5 : Sl) (K : Int → World → Prop) (w : World) : Prop :=
 semS Tryz.prog (Instr.box 72 (.agg #[(.int .i64 p2_0), (.int .i64 p2_1), (.int .i64 p2_2)])) (.one .adr) (fun x1 w =>
 semS Tryz.prog (Instr.loadAt 72 (.pointer (some x1))) (.agg [(.int .i64), (.int .i64), (.int .i64)]) (fun x2 x3 x4 w =>
 callS Tryz.prog 45 #[(.int .i64 p0), (.slice p1.a p1.len p1.cap), (.agg #[(.int .i64 x2), (.int .i64 x3), (.int .i64 x4)])] [(.one (.int .i64))] (fun r5 w =>
 cond (r5 != 0)
 (K r5 w)
 (semS Tryz.prog (Instr.loadAt 72 (.pointer (some x1))) (.agg [(.int .i64), (.int .i64), (.int .i64)]) (fun x6 x7 x8 w =>
 callS Tryz.prog 41 #[(.agg #[(.int .i64 x6), (.int .i64 x7), (.int .i64 x8)]), (.int .i64 p3)] [(.one .slc), (.one (.int .i64))] (fun r9 r10 w =>
 cond (r10 != 0)
 (K r10 w)
 (joinS (σ := Bool) (fun b11 w =>
 cond b11
 (K 12 w)
 (semS Tryz.prog (Instr.sliceAt 64 (.slice r9.a r9.len r9.cap) none (some (.int .i64 (IntKind.wrap .i64 ((r9.len : Int) - 1)))) none) (.one .slc) (fun x13 w =>
 loopS (σ := Int) (fun x14 w again15 =>
 cond (decide (x14 < (x13.len : Int)))
 (semS Tryz.prog (Instr.indexAt 64 (.slice x13.a x13.len x13.cap) (.int .i64 x14)) (.one .adr) (fun x16 w =>
 semS Tryz.prog (Instr.loadAt 66 (.pointer (some x16))) (.one .cpx) (fun x17 w =>
 semS Tryz.prog (Instr.loadAt 72 (.pointer (some x1))) (.agg [(.int .i64), (.int .i64), (.int .i64)]) (fun x18 x19 x20 w =>
 callS Tryz.prog 48 #[(.agg #[(.int .i64 x18), (.int .i64 x19), (.int .i64 x20)]), (.complex .f64 x17.re x17.im)] [(.one .cpx), (.one (.int .i64)), (.one (.int .i64))] (fun r21 r22 r23 w =>
 drawS w fun C w =>
 cond (r23 != 0)
 (K 54 w)
 (semQ Tryz.prog C (Instr.indexAt 45 (.slice p4.a p4.len p4.cap) (.int .i64 (IntKind.wrap .i64 (x14 + 1)))) (.one .adr) (fun x24 =>
 semQ Tryz.prog C (Instr.loadAt 22 (.pointer (some x24))) (.one .slc) (fun x25 =>
 semQ Tryz.prog C (Instr.indexAt 45 (.slice p4.a p4.len p4.cap) (.int .i64 x14)) (.one .adr) (fun x26 =>
 semQ Tryz.prog C (Instr.loadAt 22 (.pointer (some x26))) (.one .slc) (fun x27 =>
 callS Tryz.prog 49 #[(.int .i64 p0), (.slice p1.a p1.len p1.cap), (.slice x25.a x25.len x25.cap), (.int .i64 r22), (.slice x27.a x27.len x27.cap)] [(.one .bool)] (fun r28 w =>
 cond (!r28)
 (K 54 w)
 (again15 (IntKind.wrap .i64 (x14 + 1)) w)) w)))))) w) w) w) w)
 (semS Tryz.prog (Instr.indexAt 45 (.slice p4.a p4.len p4.cap) (.int .i64 (IntKind.wrap .i64 ((p4.len : Int) - 1)))) (.one .adr) (fun x30 w =>
 semS Tryz.prog (Instr.loadAt 22 (.pointer (some x30))) (.one .slc) (fun x31 w =>
 semS Tryz.prog (Instr.buildSlice 45 1 #[(0, (.slice x31.a x31.len x31.cap))]) (.one .slc) (fun x32 w =>
 callS Tryz.prog 50 #[(.int .i64 p0), (.slice p1.a p1.len p1.cap), (.slice x32.a x32.len x32.cap)] [(.one .slc), (.one (.int .i64))] (fun r33 r34 w =>
 callS Tryz.prog 51 #[(.slice r33.a r33.len r33.cap), (.slice p5.a p5.len p5.cap)] [(.one .bool)] (fun r35 w =>
 cond (!r35)
 (K 51 w)
 (K 0 w)) w) w) w) w) w)) 0 w) w)) fun J12 =>
 cond ((p4.len : Int) != (r9.len : Int))
 (J12 true w)
 (callS Tryz.prog 46 #[(.slice p4.a p4.len p4.cap), (.func (.func 47) #[] #[(.pointer (some x1))])] [(.one .bool)] (fun r36 w =>
 J12 r36 w) w))) w) w)) w) w) w
theorem f23_ok {p0 : Int} {p1 : Sl} {p2_0 : Int} {p2_1 : Int} {p2_2 : Int} {p3 : Int} {p4 : Sl} {p5 : Sl} {K : Int → World → Prop} {w : World} (h : f23 p0 p1 p2_0 p2_1 p2_2 p3 p4 p5 K w) : callS Tryz.prog 23 #[(.int .i64 p0), (.slice p1.a p1.len p1.cap), (.agg #[(.int .i64 p2_0), (.int .i64 p2_1), (.int .i64 p2_2)]), (.int .i64 p3), (.slice p4.a p4.len p4.cap), (.slice p5.a p5.len p5.cap)] [(.one (.int .i64))] K w :=
 calls_of_fn (args := [(.int .i64 p0), (.slice p1.a p1.len p1.cap), (.agg #[(.int .i64 p2_0), (.int .i64 p2_1), (.int .i64 p2_2)]), (.int .i64 p3), (.slice p4.a p4.len p4.cap), (.slice p5.a p5.len p5.cap)]) Tryz.f23 [] [] [] (.two .nil (.two .nil (.two .nil (.two .nil (.two .nil (.two (.two .nil (.one (.loop [(55, (.int .i64))] (.two .nil (.two .nil (.two (.one (.two .nil (.two .nil (.two (.draw [0, 1, 3, 7, 7, 7, 7, 71, 231, 487, 7, 7, 7, 6151, 14343, 32767, 65535, 131071]) .nil)))) .nil)))))) .nil)))))) (by kernel_rfl) (by kernel_rfl)
 (Eq.mp (by kernel_rfl) h)

/-- sallyport/grove.Differ -/
def f52 (p0 : Sl) (p1 : Sl) (K : Sl → Sl → Bool → World → Prop) (w : World) : Prop :=
 loopS (σ := Int) (fun x1 w again2 =>
 cond (decide (x1 ≤ (if (p1.len : Int) < (p0.len : Int) then (p1.len : Int) else (p0.len : Int))))
 (drawS w fun C w =>
 semQ Tryz.prog C (Instr.indexAt 45 (.slice p0.a p0.len p0.cap) (.int .i64 (IntKind.wrap .i64 ((p0.len : Int) - x1)))) (.one .adr) (fun x3 =>
 semQ Tryz.prog C (Instr.loadAt 22 (.pointer (some x3))) (.one .slc) (fun x4 =>
 semQ Tryz.prog C (Instr.indexAt 45 (.slice p1.a p1.len p1.cap) (.int .i64 (IntKind.wrap .i64 ((p1.len : Int) - x1)))) (.one .adr) (fun x5 =>
 semQ Tryz.prog C (Instr.loadAt 22 (.pointer (some x5))) (.one .slc) (fun x6 =>
 callS Tryz.prog 51 #[(.slice x4.a x4.len x4.cap), (.slice x6.a x6.len x6.cap)] [(.one .bool)] (fun r7 w =>
 cond (!r7)
 (callS Tryz.prog 29 #[(.slice x4.a x4.len x4.cap)] [(.one .slc)] (fun r8 w =>
 callS Tryz.prog 29 #[(.slice x6.a x6.len x6.cap)] [(.one .slc)] (fun r9 w =>
 K r8 r9 true w) w) w)
 (again2 (IntKind.wrap .i64 (x1 + 1)) w)) w)))))
 (K (⟨none, 0, 0⟩) (⟨none, 0, 0⟩) false w)) 1 w
theorem f52_ok {p0 : Sl} {p1 : Sl} {K : Sl → Sl → Bool → World → Prop} {w : World} (h : f52 p0 p1 K w) : callS Tryz.prog 52 #[(.slice p0.a p0.len p0.cap), (.slice p1.a p1.len p1.cap)] [(.one .slc), (.one .slc), (.one .bool)] K w :=
 calls_of_fn (args := [(.slice p0.a p0.len p0.cap), (.slice p1.a p1.len p1.cap)]) Tryz.f52 [] [] [] (.two .nil (.two (.two .nil (.one (.loop [(7, (.int .i64))] (.two .nil (.two (.one (.two (.draw [0, 0, 2, 0, 14, 31, 63, 0, 0, 256, 0, 1792, 3968, 8064, 127, 32767]) .nil)) .nil))))) .nil)) (by kernel_rfl) (by kernel_rfl)
 (Eq.mp (by kernel_rfl) h)

/-- sallyport/sallyportlaw17.same -/
def f24 (p0_0 : Int) (p0_1 : Int) (p0_2 : Int) (p0_3 : Sl) (p0_4 : Sl) (p1 : Int) (p2 : Sl) (p3 : Sl) (K : Bool → World → Prop) (w : World) : Prop :=
 semS Tryz.prog (Instr.box 24 (.agg #[(.int .i64 p0_0), (.int .i64 p0_1), (.int .i64 p0_2), (.slice p0_3.a p0_3.len p0_3.cap), (.slice p0_4.a p0_4.len p0_4.cap)])) (.one .adr) (fun x1 w =>
 semS Tryz.prog (Instr.loadAt 3 (.pointer (some (x1.add 1)))) (.one (.int .i64)) (fun x2 w =>
 semS Tryz.prog (Instr.makeSlice 22 (.int .i64 x2) (.int .i64 x2)) (.one .slc) (fun x3 w =>
 semS Tryz.prog (Instr.loadAt 22 (.pointer (some (x1.add 4)))) (.one .slc) (fun x4 w =>
 semS Tryz.prog (Instr.loadAt 3 (.pointer (some (x1.add 1)))) (.one (.int .i64)) (fun x5 w =>
 semS Tryz.prog (Instr.sliceAt 22 (.slice x4.a x4.len x4.cap) (some (.int .i64 (IntKind.wrap .i64 (p1 * x5)))) none none) (.one .slc) (fun x6 w =>
 semS Tryz.prog (Builtin.copy_ #[22, 22] 3 #[(.slice x3.a x3.len x3.cap), (.slice x6.a x6.len x6.cap)]) (.one (.int .i64)) (fun r7 w =>
 semS Tryz.prog (convert 22 9 (.slice p2.a p2.len p2.cap)) (.one .str) (fun x8 w =>
 semS Tryz.prog (convert 22 9 (.slice x3.a x3.len x3.cap)) (.one .str) (fun x9 w =>
 cond (x8.toList == x9.toList)
 (K true w)
 (semS Tryz.prog (Instr.loadAt 24 (.pointer (some x1))) (.agg [(.int .i64), (.int .i64), (.int .i64), .slc, .slc]) (fun x10 x11 x12 x13 x14 w =>
 callS Tryz.prog 7 #[(.agg #[(.int .i64 x10), (.int .i64 x11), (.int .i64 x12), (.slice x13.a x13.len x13.cap), (.slice x14.a x14.len x14.cap)])] [(.one .ptr), (.agg [(.int .i64), (.int .i64), (.int .i64), (.int .i64), (.int .i64), (.int .i64), .str, .slc, .slc, .slc, .slc])] (fun r15 r16 r17 r18 r19 r20 r21 r22 r23 r24 r25 r26 w =>
 semS Tryz.prog (Instr.alloc 29 true (.tuple #[])) (.one .adr) (fun x27 w =>
 semU Tryz.prog (Instr.storeAt 29 (.pointer (some x27)) (.agg #[(.int .i64 r16), (.int .i64 r17), (.int .i64 r18), (.int .i64 r19), (.int .i64 r20), (.int .i64 r21), (.string r22), (.slice r23.a r23.len r23.cap), (.slice r24.a r24.len r24.cap), (.slice r25.a r25.len r25.cap), (.slice r26.a r26.len r26.cap)])) (fun w =>
 semS Tryz.prog (Instr.loadAt 29 (.pointer (some x27))) (.agg [(.int .i64), (.int .i64), (.int .i64), (.int .i64), (.int .i64), (.int .i64), .str, .slc, .slc, .slc, .slc]) (fun x28 x29 x30 x31 x32 x33 x34 x35 x36 x37 x38 w =>
 callS Tryz.prog 10 #[(.agg #[(.int .i64 x28), (.int .i64 x29), (.int .i64 x30), (.int .i64 x31), (.int .i64 x32), (.int .i64 x33), (.string x34), (.slice x35.a x35.len x35.cap), (.slice x36.a x36.len x36.cap), (.slice x37.a x37.len x37.cap), (.slice x38.a x38.len x38.cap)])] [(.agg [(.int .i64), (.int .i64), (.int .i64), (.int .i64), (.int .i64), (.int .i64), .str, .slc, .slc, .slc, .slc])] (fun r39 r40 r41 r42 r43 r44 r45 r46 r47 r48 r49 w =>
 semS Tryz.prog (Instr.box 47 (.agg #[(.string (ByteArray.mk #[112])), (.int .i64 r39), (.int .i64 r40), (.int .i64 r41), (.int .i64 r42), (.int .i64 r43), (.int .i64 r44), (.string r45), (.slice r46.a r46.len r46.cap), (.slice r47.a r47.len r47.cap), (.slice r48.a r48.len r48.cap), (.slice r49.a r49.len r49.cap), (.int .i64 0), (.slice none 0 0), (.slice none 0 0), (.bool false), (.slice none 0 0)])) (.one .adr) (fun x50 w =>
 callS Tryz.prog 9 #[(.pointer r15)] [(.agg [.str, .slc, .slc])] (fun r51 r52 r53 w =>
 semS Tryz.prog (Instr.buildSlice 40 1 #[(0, (.agg #[(.string r51), (.slice r52.a r52.len r52.cap), (.slice r53.a r53.len r53.cap)]))]) (.one .slc) (fun x54 w =>
 callS Tryz.prog 15 #[(.pointer (some x50)), (.slice x54.a x54.len x54.cap), (.int .i64 p1)] [(.one .slc), (.one (.int .i64))] (fun r55 r56 w =>
 cond (r56 != 0)
 (K false w)
 (semS Tryz.prog (Instr.loadAt 45 (.pointer (some (x50.add 16)))) (.one .slc) (fun x57 w =>
 callS Tryz.prog 52 #[(.slice x57.a x57.len x57.cap), (.slice p3.a p3.len p3.cap)] [(.one .slc), (.one .slc), (.one .bool)] (fun r58 r59 r60 w =>
 drawS w fun C w =>
 cond r60
 (semQ Tryz.prog C (convert 22 9 (.slice r58.a r58.len r58.cap)) (.one .str) (fun x61 =>
 semQ Tryz.prog C (convert 22 9 (.slice r59.a r59.len r59.cap)) (.one .str) (fun x62 =>
 cond (!(x61.toList == x62.toList))
 (cond ((r58.len : Int) == (r59.len : Int))
 (semQ Tryz.prog C (Instr.loadAt 3 (.pointer (some (x1.add 0)))) (.one (.int .i64)) (fun x63 =>
 semQ Tryz.prog C (Instr.loadAt 22 (.pointer (some (x1.add 3)))) (.one .slc) (fun x64 =>
 semQ Tryz.prog C (Instr.loadAt 3 (.pointer (some (x1.add 0)))) (.one (.int .i64)) (fun x65 =>
 semQ Tryz.prog C (Instr.loadAt 22 (.pointer (some (x1.add 3)))) (.one .slc) (fun x66 =>
 callS Tryz.prog 53 #[(.int .i64 x63), (.slice x64.a x64.len x64.cap), (.slice r58.a r58.len r58.cap)] [(.one .slc)] (fun r67 w =>
 moreS C w (fun C =>
 semQ Tryz.prog C (convert 22 9 (.slice r67.a r67.len r67.cap)) (.one .str) (fun x68 =>
 callS Tryz.prog 53 #[(.int .i64 x65), (.slice x66.a x66.len x66.cap), (.slice r59.a r59.len r59.cap)] [(.one .slc)] (fun r69 w =>
 moreS C w (fun C =>
 semQ Tryz.prog C (convert 22 9 (.slice r69.a r69.len r69.cap)) (.one .str) (fun x70 =>
 K (x68.toList == x70.toList) w))) w))) w)))))
 (K false w))
 (K false w))))
 (K false w)) w) w)) w) w) w) w) w) w) w) w) w) w)) w) w) w) w) w) w) w) w) w
theorem f24_ok {p0_0 : Int} {p0_1 : Int} {p0_2 : Int} {p0_3 : Sl} {p0_4 : Sl} {p1 : Int} {p2 : Sl} {p3 : Sl} {K : Bool → World → Prop} {w : World} (h : f24 p0_0 p0_1 p0_2 p0_3 p0_4 p1 p2 p3 K w) : callS Tryz.prog 24 #[(.agg #[(.int .i64 p0_0), (.int .i64 p0_1), (.int .i64 p0_2), (.slice p0_3.a p0_3.len p0_3.cap), (.slice p0_4.a p0_4.len p0_4.cap)]), (.int .i64 p1), (.slice p2.a p2.len p2.cap), (.slice p3.a p3.len p3.cap)] [(.one .bool)] K w :=
 calls_of_fn (args := [(.agg #[(.int .i64 p0_0), (.int .i64 p0_1), (.int .i64 p0_2), (.slice p0_3.a p0_3.len p0_3.cap), (.slice p0_4.a p0_4.len p0_4.cap)]), (.int .i64 p1), (.slice p2.a p2.len p2.cap), (.slice p3.a p3.len p3.cap)]) Tryz.f24 [] [] [] (.two .nil (.two .nil (.two .nil (.two .nil (.two .nil (.two .nil (.two .nil (.two .nil (.two (.draw [0, 1, 3, 7, 3, 19, 63, 127, 255, 511, 1023, 511, 2559, 8191, 16383, 32767, 65535, 131071, 65535, 327679, 65535, 2097151, 4194303, 65535, 8454143, 65535, 33619967, 65535, 264241151, 532676607, 1073741823, 2147483647, 4294967295]) .nil))))))))) (by kernel_rfl) (by kernel_rfl)
 (Eq.mp (by kernel_rfl) h)

def f4_t1 (r14 : Option Addr) (p1 : Sl) (K : Bool → World → Prop) (r40 : Option Addr) (x26 : Addr) (z53 : Addr) (x1 : Addr) (w : World) : Prop :=
 callS Tryz.prog 9 #[(.pointer r14)] [(.agg [.str, .slc, .slc])] (fun r54 r55 r56 w =>
 semS Tryz.prog (Instr.alloc 38 true (.tuple #[])) (.one .adr) (fun x57 w =>
 semU Tryz.prog (Instr.storeAt 38 (.pointer (some x57)) (.agg #[(.string r54), (.slice r55.a r55.len r55.cap), (.slice r56.a r56.len r56.cap)])) (fun w =>
 loopS (σ := Int) (fun x58 w again59 =>
 cond (decide (x58 < (p1.len : Int)))
 (semS Tryz.prog (Instr.indexAt 25 (.slice p1.a p1.len p1.cap) (.int .i64 x58)) (.one .adr) (fun x60 w =>
 semS Tryz.prog (Instr.loadAt 55 (.pointer (some x60))) (.agg [(.int .i64), (.int .i64), .slc, .bool]) (fun x61 x62 x63 x64 w =>
 semS Tryz.prog (Instr.alloc 55 true (.tuple #[])) (.one .adr) (fun x65 w =>
 semU Tryz.prog (Instr.storeAt 55 (.pointer (some x65)) (.agg #[(.int .i64 x61), (.int .i64 x62), (.slice x63.a x63.len x63.cap), (.bool x64)])) (fun w =>
 semS Tryz.prog (Instr.loadAt 22 (.pointer (some (x65.add 2)))) (.one .slc) (fun x66 w =>
 cond (decide ((x66.len : Int) > 300))
 (K true w)
 (semS Tryz.prog (Instr.loadAt 3 (.pointer (some (x65.add 0)))) (.one (.int .i64)) (fun x67 w =>
 cond (x67 != 1)
 (drawS w fun C w =>
 semQ Tryz.prog C (Instr.loadAt 22 (.pointer (some (x57.add 1)))) (.one .slc) (fun x68 =>
 semQ Tryz.prog C (Instr.loadAt 36 (.pointer (some (x57.add 2)))) (.one .slc) (fun x69 =>
 semQ Tryz.prog C (Instr.loadAt 55 (.pointer (some x65))) (.agg [(.int .i64), (.int .i64), .slc, .bool]) (fun x70 x71 x72 x73 =>
 (semS Tryz.prog (Instr.makeSlice 22 (.int .i64 (x68.len : Int)) (.int .i64 (x68.len : Int))) (.one .slc) (fun x74 w =>
 moreS C w (fun C =>
 semS Tryz.prog (Instr.makeSlice 36 (.int .i64 (x69.len : Int)) (.int .i64 (x69.len : Int))) (.one .slc) (fun x75 w =>
 moreS C w (fun C =>
 semS Tryz.prog (Instr.box 38 (.agg #[(.string ByteArray.empty), (.slice x74.a x74.len x74.cap), (.slice x75.a x75.len x75.cap)])) (.one .adr) (fun x76 w =>
 moreS C w (fun C =>
 callS Tryz.prog 14 #[(.pointer r14), (.pointer (some x76)), (.agg #[(.int .i64 x70), (.int .i64 x71), (.slice x72.a x72.len x72.cap), (.bool x73)])] [] (fun w =>
 again59 (IntKind.wrap .i64 (x58 + 1)) w) w)) w)) w)) w) ∧
 (semS Tryz.prog (Instr.makeSlice 36 (.int .i64 (x69.len : Int)) (.int .i64 (x69.len : Int))) (.one .slc) (fun x77 w =>
 moreS C w (fun C =>
 semS Tryz.prog (Instr.makeSlice 22 (.int .i64 (x68.len : Int)) (.int .i64 (x68.len : Int))) (.one .slc) (fun x78 w =>
 moreS C w (fun C =>
 semS Tryz.prog (Instr.box 38 (.agg #[(.string ByteArray.empty), (.slice x78.a x78.len x78.cap), (.slice x77.a x77.len x77.cap)])) (.one .adr) (fun x79 w =>
 moreS C w (fun C =>
 callS Tryz.prog 14 #[(.pointer r14), (.pointer (some x79)), (.agg #[(.int .i64 x70), (.int .i64 x71), (.slice x72.a x72.len x72.cap), (.bool x73)])] [] (fun w =>
 again59 (IntKind.wrap .i64 (x58 + 1)) w) w)) w)) w)) w)))))
 (semS Tryz.prog (Instr.loadAt 3 (.pointer (some (x65.add 1)))) (.one (.int .i64)) (fun x80 w =>
 callS Tryz.prog 16 #[(.pointer r40), (.int .i64 x80)] [(.one .slc), (.one (.int .i64))] (fun r81 r82 w =>
 cond (r82 != 0)
 (joinS (σ := Bool) (fun b83 w =>
 cond b83
 (K false w)
 (again59 (IntKind.wrap .i64 (x58 + 1)) w)) fun J84 =>
 cond ((r81.len : Int) != 0)
 (J84 true w)
 (callS Tryz.prog 19 #[(.pointer r40)] [(.one .slc)] (fun r85 w =>
 J84 ((r85.len : Int) != 0) w) w))
 (drawS w fun C w =>
 semQ Tryz.prog C (Instr.loadAt 3 (.pointer (some (x26.add 1)))) (.one (.int .i64)) (fun x86 =>
 semQ Tryz.prog C (Instr.loadAt 22 (.pointer (some (x26.add 7)))) (.one .slc) (fun x87 =>
 semQ Tryz.prog C (Instr.loadAt 72 (.pointer (some z53))) (.agg [(.int .i64), (.int .i64), (.int .i64)]) (fun x88 x89 x90 =>
 semQ Tryz.prog C (Instr.loadAt 3 (.pointer (some (x65.add 1)))) (.one (.int .i64)) (fun x91 =>
 semQ Tryz.prog C (Instr.loadAt 22 (.pointer (some (x26.add 8)))) (.one .slc) (fun x92 =>
 callS Tryz.prog 19 #[(.pointer r40)] [(.one .slc)] (fun r93 w =>
 moreS C w (fun C =>
 callS Tryz.prog 23 #[(.int .i64 x86), (.slice x87.a x87.len x87.cap), (.agg #[(.int .i64 x88), (.int .i64 x89), (.int .i64 x90)]), (.int .i64 x91), (.slice r93.a r93.len r93.cap), (.slice x92.a x92.len x92.cap)] [(.one (.int .i64))] (fun r94 w =>
 moreS C w (fun C =>
 cond (r94 != 0)
 (K false w)
 (semQ Tryz.prog C (Instr.loadAt 24 (.pointer (some x1))) (.agg [(.int .i64), (.int .i64), (.int .i64), .slc, .slc]) (fun x95 x96 x97 x98 x99 =>
 semQ Tryz.prog C (Instr.loadAt 3 (.pointer (some (x65.add 1)))) (.one (.int .i64)) (fun x100 =>
 callS Tryz.prog 19 #[(.pointer r40)] [(.one .slc)] (fun r101 w =>
 moreS C w (fun C =>
 callS Tryz.prog 24 #[(.agg #[(.int .i64 x95), (.int .i64 x96), (.int .i64 x97), (.slice x98.a x98.len x98.cap), (.slice x99.a x99.len x99.cap)]), (.int .i64 x100), (.slice r81.a r81.len r81.cap), (.slice r101.a r101.len r101.cap)] [(.one .bool)] (fun r102 w =>
 cond (!r102)
 (K false w)
 (again59 (IntKind.wrap .i64 (x58 + 1)) w)) w)) w))))) w)) w))))))) w) w)) w)) w) w) w) w) w)
 (K true w)) 0 w) w) w) w

/-- sallyport/sallyportlaw17.VerityTrue -/
def f4 (p0_0 : Int) (p0_1 : Int) (p0_2 : Int) (p0_3 : Sl) (p0_4 : Sl) (p1 : Sl) (K : Bool → World → Prop) (w : World) : Prop :=
 semS Tryz.prog (Instr.box 24 (.agg #[(.int .i64 p0_0), (.int .i64 p0_1), (.int .i64 p0_2), (.slice p0_3.a p0_3.len p0_3.cap), (.slice p0_4.a p0_4.len p0_4.cap)])) (.one .adr) (fun x1 w =>
 callS Tryz.prog 5 #[] [(.one .bool)] (fun r2 w =>
 cond (!r2)
 (K false w)
 (semS Tryz.prog (Instr.loadAt 24 (.pointer (some x1))) (.agg [(.int .i64), (.int .i64), (.int .i64), .slc, .slc]) (fun x3 x4 x5 x6 x7 w =>
 callS Tryz.prog 6 #[(.agg #[(.int .i64 x3), (.int .i64 x4), (.int .i64 x5), (.slice x6.a x6.len x6.cap), (.slice x7.a x7.len x7.cap)])] [(.one .bool)] (fun r8 w =>
 cond ((!r8) || (decide ((p1.len : Int) > 60)))
 (K true w)
 (semS Tryz.prog (Instr.loadAt 24 (.pointer (some x1))) (.agg [(.int .i64), (.int .i64), (.int .i64), .slc, .slc]) (fun x9 x10 x11 x12 x13 w =>
 callS Tryz.prog 7 #[(.agg #[(.int .i64 x9), (.int .i64 x10), (.int .i64 x11), (.slice x12.a x12.len x12.cap), (.slice x13.a x13.len x13.cap)])] [(.one .ptr), (.agg [(.int .i64), (.int .i64), (.int .i64), (.int .i64), (.int .i64), (.int .i64), .str, .slc, .slc, .slc, .slc])] (fun r14 r15 r16 r17 r18 r19 r20 r21 r22 r23 r24 r25 w =>
 semS Tryz.prog (Instr.alloc 29 true (.tuple #[])) (.one .adr) (fun x26 w =>
 semU Tryz.prog (Instr.storeAt 29 (.pointer (some x26)) (.agg #[(.int .i64 r15), (.int .i64 r16), (.int .i64 r17), (.int .i64 r18), (.int .i64 r19), (.int .i64 r20), (.string r21), (.slice r22.a r22.len r22.cap), (.slice r23.a r23.len r23.cap), (.slice r24.a r24.len r24.cap), (.slice r25.a r25.len r25.cap)])) (fun w =>
 semS Tryz.prog (binS .eql 27 (.tmp 30) (.const (Go.Value.pointer none)) (.pointer r14) (.pointer none)) (.one .bool) (fun x27 w =>
 cond x27
 (K true w)
 (semS Tryz.prog (Instr.loadAt 29 (.pointer (some x26))) (.agg [(.int .i64), (.int .i64), (.int .i64), (.int .i64), (.int .i64), (.int .i64), .str, .slc, .slc, .slc, .slc]) (fun x28 x29 x30 x31 x32 x33 x34 x35 x36 x37 x38 w =>
 semS Tryz.prog (Instr.loadAt 3 (.pointer (some (x1.add 2)))) (.one (.int .i64)) (fun x39 w =>
 callS Tryz.prog 8 #[(.pointer r14), (.string (ByteArray.mk #[112])), (.agg #[(.int .i64 x28), (.int .i64 x29), (.int .i64 x30), (.int .i64 x31), (.int .i64 x32), (.int .i64 x33), (.string x34), (.slice x35.a x35.len x35.cap), (.slice x36.a x36.len x36.cap), (.slice x37.a x37.len x37.cap), (.slice x38.a x38.len x38.cap)]), (.int .i64 x39)] [(.one .ptr), (.one (.int .i64))] (fun r40 r41 w =>
 cond (r41 != 0)
 (semS Tryz.prog (Instr.loadAt 3 (.pointer (some (x1.add 2)))) (.one (.int .i64)) (fun x42 w =>
 joinS (σ := Bool) (fun b43 w =>
 K b43 w) fun J44 =>
 cond (decide (x42 < 0))
 (J44 true w)
 (semS Tryz.prog (Instr.loadAt 3 (.pointer (some (x1.add 2)))) (.one (.int .i64)) (fun x45 w =>
 J44 (decide (x45 > 1)) w) w)) w)
 (drawS w fun C w =>
 semQ Tryz.prog C (Instr.loadAt 3 (.pointer (some (x26.add 2)))) (.one (.int .i64)) (fun x46 =>
 semQ Tryz.prog C (Instr.loadAt 3 (.pointer (some (x26.add 3)))) (.one (.int .i64)) (fun x47 =>
 semQ Tryz.prog C (Instr.loadAt 3 (.pointer (some (x26.add 1)))) (.one (.int .i64)) (fun x48 =>
 (callS Tryz.prog 22 #[(.int .i64 x48)] [(.one (.int .i64))] (fun r49 w =>
 moreS C w (fun C =>
 semS Tryz.prog (Instr.alloc 72 true (.tuple #[])) (.one .adr) (fun x50 w =>
 moreS C w (fun C =>
 semU Tryz.prog (Instr.storeAt 72 (.pointer (some x50)) (.agg #[(.int .i64 x46), (.int .i64 x47), (.int .i64 r49)])) (fun w =>
 f4_t1 r14 p1 K r40 x26 x50 x1 w) w)) w)) w) ∧
 (semS Tryz.prog (Instr.alloc 72 true (.tuple #[])) (.one .adr) (fun x51 w =>
 moreS C w (fun C =>
 callS Tryz.prog 22 #[(.int .i64 x48)] [(.one (.int .i64))] (fun r52 w =>
 moreS C w (fun C =>
 semU Tryz.prog (Instr.storeAt 72 (.pointer (some x51)) (.agg #[(.int .i64 x46), (.int .i64 x47), (.int .i64 r52)])) (fun w =>
 f4_t1 r14 p1 K r40 x26 x51 x1 w) w)) w)) w)))))) w) w) w)) w) w) w) w) w)) w) w)) w) w
theorem f4_ok {p0_0 : Int} {p0_1 : Int} {p0_2 : Int} {p0_3 : Sl} {p0_4 : Sl} {p1 : Sl} {K : Bool → World → Prop} {w : World} (h : f4 p0_0 p0_1 p0_2 p0_3 p0_4 p1 K w) : callS Tryz.prog 4 #[(.agg #[(.int .i64 p0_0), (.int .i64 p0_1), (.int .i64 p0_2), (.slice p0_3.a p0_3.len p0_3.cap), (.slice p0_4.a p0_4.len p0_4.cap)]), (.slice p1.a p1.len p1.cap)] [(.one .bool)] K w :=
 calls_of_fn (args := [(.agg #[(.int .i64 p0_0), (.int .i64 p0_1), (.int .i64 p0_2), (.slice p0_3.a p0_3.len p0_3.cap), (.slice p0_4.a p0_4.len p0_4.cap)]), (.slice p1.a p1.len p1.cap)]) Tryz.f4 [] [] [] (.two .nil (.two .nil (.two .nil (.two .nil (.two .nil (.two .nil (.two .nil (.two (.draw [0, 1, 0, 4, 0, 16, 48, 127, 0, 511]) (.two .nil (.two (.two .nil (.one (.loop [(62, (.int .i64))] (.two .nil (.two .nil (.two (.one (.two .nil (.two .nil (.two (.two .nil (.two (.two (.draw [0, 0, 2, 6, 14, 0, 32, 96, 224, 510, 1022, 0, 4095]) .nil) .nil)) (.two .nil (.two .nil (.two (.draw [0, 1, 0, 4, 0, 0, 32, 0, 128, 0, 512, 2047, 4095, 8191, 16383, 16383, 49151, 16383, 16383, 278527, 1048575, 2097151, 4194303]) .nil))))))) .nil)))))) .nil)))))))))) (by kernel_rfl) (by kernel_rfl)
 (Eq.mp (by kernel_rfl) h)

end Go.Proofs.YteopoodhclljjaaGreatDoor
