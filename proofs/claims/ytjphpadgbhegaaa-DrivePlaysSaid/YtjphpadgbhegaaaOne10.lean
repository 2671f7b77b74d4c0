/- Layer 10 (drive): drives of one partition, as plain data. -/
import Derived.Test.YtjphpadgbhegaaaDrv10e
set_option linter.unusedSimpArgs false
set_option linter.unusedVariables false
namespace Go.S
open Go Go.Eng
/-- A drive of one partition. -/
def one (name b : List UInt8) (bad : Int → Bool) (left : Int) (keep : List Bool) (down : Bool) (c n : Int) : Drv := ⟨[⟨name, b, bad⟩], left, keep, down, c, n⟩
section
variable {name b : List UInt8} {bad : Int → Bool} {left : Int} {keep : List Bool} {down : Bool} {c n : Int}
theorem fresh_one (name : List UInt8) (k : Int) : Drv.fresh [(name, k)] = one name (List.replicate k.toNat 0) (fun _ => false) (-1) [] false 0 0 := rfl
theorem at?_one : (one name b bad left keep down c n).at? name = some 0 := by
  unfold Drv.at? one
  rw [List.findIdx?_eq_some_iff_getElem]
  exact ⟨by simp, by simp, fun j hj => by omega⟩
theorem ar_one : (one name b bad left keep down c n).ar 0 = ⟨name, b, bad⟩ := rfl
theorem err_one {off len : Int} : (one name b bad left keep false c n).err name off len = if within off len b.length then 0 else 10 := by
  unfold Drv.err
  rw [at?_one]; rfl
theorem read_one {off len : Int} (h : within off len b.length = true) : (one name b bad left keep false c n).read name off len = if (Area.mk name b bad).badIn off len then ([], 41, one name b bad left keep false c n) else ((b.drop off.toNat).take len.toNat, 0, one name b bad left keep false (cap60 (c + 1)) (cap60 (n + len))) := by
  unfold Drv.read
  rw [err_one, h, at?_one]; rfl
theorem read_oneX {off len : Int} (h : within off len b.length = false) : (one name b bad left keep false c n).read name off len = ([], 10, one name b bad left keep false c n) := by
  unfold Drv.read
  rw [err_one, h]; rfl
theorem read_oneD {off len : Int} : (one name b bad left keep true c n).read name off len = ([], 42, one name b bad left keep true c n) := by
  unfold Drv.read Drv.err; rfl
theorem badIn_none {off len : Int} : (Area.mk name b (fun _ => false)).badIn off len = false := by unfold Area.badIn; simp
theorem write_one {off : Int} {bs : List UInt8} (h : within off bs.length b.length = true) (hl : left ≠ 0) : (one name b bad left keep false c n).write name off bs = (0, one name (over b bs off.toNat fun _ => true) bad (max (left - 1) (-1)) keep false c n) := by
  unfold Drv.write
  rw [err_one, h, at?_one]
  simp only [if_true, ne_eq, not_true_eq_false, if_false, Option.getD_some]
  rw [if_pos (show ¬ (one name b bad left keep false c n).left = 0 from hl)]; rfl
theorem write_one0 {off : Int} {bs : List UInt8} (h : within off bs.length b.length = true) : (one name b bad 0 keep false c n).write name off bs = (42, one name (over b bs off.toNat fun k => keep.getD k false) bad 0 keep true c n) := by
  unfold Drv.write
  rw [err_one, h, at?_one]; rfl
theorem arm_one (k : Int) (ks : List Bool) : (one name b bad left keep down c n).arm k ks = one name b bad (max k (-1)) ks down c n := rfl
theorem boot_one : (one name b bad left keep down c n).boot = one name b bad (-1) keep false c n := rfl
end
end Go.S
namespace Go.S
open Go Go.Eng
section
variable {name b : List UInt8} {bad : Int → Bool} {left : Int} {keep : List Bool} {down : Bool} {c n : Int}
theorem badS_one {s : Int} {on : Bool} : (one name b bad left keep down c n).badS name s on = if s < 0 ∨ s ≥ (b.length : Int) / 64 then (false, one name b bad left keep down c n) else (true, one name b (fun k => if k = s then on else bad k) left keep down c n) := by
  unfold Drv.badS
  rw [at?_one]; rfl
theorem turn_one {off : Int} {xs : List UInt8} : (one name b bad left keep down c n).turn name off xs = if within off xs.length b.length then (true, one name (xorAt b xs off.toNat) bad left keep down c n) else (false, one name b bad left keep down c n) := by
  unfold Drv.turn
  rw [at?_one]; rfl
end
theorem xorAt_xorAt (b xs : List UInt8) (off : Nat) : xorAt (xorAt b xs off) xs off = b := by
  apply List.ext_getElem?
  intro i
  by_cases hi : i < b.length
  · rw [xorAt_get (by rw [xorAt_length]; exact hi)]
    have hg : (xorAt b xs off).getD i 0 = if off ≤ i ∧ i < off + xs.length then b.getD i 0 ^^^ xs.getD (i - off) 0 else b.getD i 0 := by
      rw [List.getD_eq_getElem?_getD, xorAt_get hi]; rfl
    rw [hg]
    by_cases h : off ≤ i ∧ i < off + xs.length
    · rw [if_pos h, if_pos h]
      simp only [UInt8.xor_assoc, UInt8.xor_self, UInt8.xor_zero]
      simp [hi]
    · rw [if_neg h, if_neg h]; simp [hi]
  · rw [List.getElem?_eq_none (by rw [xorAt_length, xorAt_length]; omega), List.getElem?_eq_none (by omega)]
end Go.S
namespace Go.Proofs.Ytjphpadgbhegaaa
open Go Go.Eng
/-- 'drive.New([]drive.Part{{Name: .., Size: ..}})' -/
theorem newOne_s {name : List UInt8} {k : Int} {nm : ByteArray} {K : Option Addr → Int → World → Prop} {w : World} (hn : nm = str name) (hk : S.I64 k) (hl : name.length ≤ 9223372036854775807)
    (hBad : ∀ w', Ext w w' → S.made [(name, k)] ≠ 0 → K none (S.made [(name, k)]) w')
    (hOk : ∀ gd L w', Ext w w' → S.made [(name, k)] = 0 → w.heap.size ≤ gd → (∀ k, L.inD gd k → w.heap.size ≤ k) → DriveAt w' gd L (S.one name (List.replicate k.toNat 0) (fun _ => false) (-1) [] false 0 0) → K (some (at_ gd 0)) 0 w') :
    semS Try.prog (Instr.buildSlice 31 1 #[(0, (.agg #[(.string nm), (.int .i64 k)]))]) (.one .slc) (fun x w => callS Try.prog 9 #[.slice x.a x.len x.cap] [.one .ptr, .one (.int .i64)] K w) w := by
  subst hn
  refine buildSlice_i (pc (name, k)).toArray ?_ rfl (by omega) fun v w1 e1 o1 hvl => ?_
  · kernel_rfl
  · have hp : PartsIn w1 v [(name, k)] := by
      refine ⟨⟨by simpa using o1.rd, by simp [hvl], fun c hc => ?_⟩, fun p hp => ?_⟩
      · simp at hc; subst hc; rfl
      · simp at hp; subst hp; exact ⟨hk, hl⟩
    refine drvNew_s hp (fun w' e h => hBad w' (e1.trans e) h) fun gd L w' e h1 h2 h3 h4 => ?_
    have hs := e1.size
    exact hOk gd L w' (e1.trans e) h1 (by omega) (fun k hk => by have := h3 k hk; omega) h4
theorem take_all {l : List UInt8} {n : Int} (h : (l.length : Int) = n) : (l.drop (0 : Int).toNat).take n.toNat = l := by
  rw [show (0 : Int).toNat = 0 by rfl, List.drop_zero]
  exact List.take_of_length_le (by omega)
end Go.Proofs.Ytjphpadgbhegaaa
