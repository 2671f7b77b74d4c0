/- Layer 2 (short sums): words, schedules, turns. -/
import Derived.Test.YtlpcoofmfkjjhaaDoorSh
import Derived.Test.YtlpcoofmfkjjhaaDoorTy
import Derived.Test.YtlpcoofmfkjjhaaDoorSpan
import Derived.Test.YtlpcoofmfkjjhaaDoorPure02
set_option linter.unusedSimpArgs false
set_option linter.unusedVariables false
namespace Go.S
def sh2 : Sha := ⟨.u32, 4, 64, 7, 18, 3, 17, 19, 10, 6, 11, 25, 2, 13, 22,
  [1116352408, 1899447441, 3049323471, 3921009573, 961987163, 1508970993, 2453635748, 2870763221, 3624381080, 310598401, 607225278, 1426881987, 1925078388, 2162078206, 2614888103, 3248222580, 3835390401, 4022224774, 264347078, 604807628, 770255983, 1249150122, 1555081692, 1996064986, 2554220882, 2821834349, 2952996808, 3210313671, 3336571891, 3584528711, 113926993, 338241895, 666307205, 773529912, 1294757372, 1396182291, 1695183700, 1986661051, 2177026350, 2456956037, 2730485921, 2820302411, 3259730800, 3345764771, 3516065817, 3600352804, 4094571909, 275423344, 430227734, 506948616, 659060556, 883997877, 958139571, 1322822218, 1537002063, 1747873779, 1955562222, 2024104815, 2227730452, 2361852424, 2428436474, 2756734187, 3204031479, 3329325298],
  [1779033703, 3144134277, 1013904242, 2773480762, 1359893119, 2600822924, 528734635, 1541459225], 8⟩
end Go.S
namespace Go.Proofs.YtlpcoofmfkjjhaaDoor
open Go Go.Eng

theorem turn_arg : ∀ n : Fin 32, 1 ≤ n.val → andI .u64 (IntKind.wrap .u64 (IntKind.wrap .i64 (0 - (n.val : Int)))) 31 = 32 - (n.val : Int) := by decide +kernel
theorem turn_s {x : Int} {n : Nat} {K : Int → World → Prop} {w : World} (h1 : 1 ≤ n) (h2 : n ≤ 31) (hK : K (S.sh2.rot x n) w) :
    callS Tryd.prog 20 #[.int .u32 x, .int .i64 (n : Int)] [.one (.int .u32)] K w := by
  refine f20_ok ?_
  unfold f20
  refine f25_ok ?_
  unfold f25
  have ha := turn_arg ⟨n, by omega⟩ h1
  simp only at ha
  rw [ha]
  refine shl_i (by omega) ?_
  rw [show (32 : Int) - (32 - (n : Int)) = n by omega, wrap_u64 (by omega) (by omega)]
  refine shr_i (by omega) ?_
  rw [S.orI_comm]
  exact hK
theorem right_s {x : Int} {n : Nat} {K : Int → World → Prop} {w : World} (h1 : 1 ≤ n) (h2 : n ≤ 31) (hK : ∀ w', Ext w w' → K (S.sh2.rot x n) w') :
    callS Tryd.prog 23 #[.int .u32 x, .int .i64 (n : Int)] [.one (.int .u32)] K w := by
  refine f23_ok ?_
  unfold f23
  refine ⟨fun x => Ext w x, Ext.drew _, ?_⟩
  refine shrQ_i (by omega) ?_
  rw [wrap_i64 (by omega) (by omega)]
  refine shlQ_i (by omega) ?_
  exact hK _ (Ext.drew _)

/-- Words in a slice of one's own. -/
abbrev OwnW (w : World) (B : Nat) (s : Sl) (xs : List Int) : Prop := Own w B s 1 (xs.map (Value.int .u32))
theorem OwnW.len {w : World} {B : Nat} {s : Sl} {xs : List Int} (h : OwnW w B s xs) : s.len = xs.length := by have := Own.len h; simp at this; omega
theorem appendW_i {s : Sl} {xs : List Int} {B : Nat} {K : Sl → World → Prop} {w : World} (x : Int) (ho : OwnW w B s xs) (hlen : xs.length ≤ 100000) (hB : B ≤ w.heap.size) (hK : ∀ v w', Fr s.inB w w' → OwnW w' B v (xs ++ [x]) → K v w') :
    semS Tryd.prog (Instr.buildSlice 39 1 #[(0, .int .u32 x)]) (.one .slc) (fun y w => semS Tryd.prog (Builtin.append_ #[39, 39] 39 #[.slice s.a s.len s.cap, .slice y.a y.len y.cap]) (.one .slc) K w) w :=
  append1V_i (.int .u32 x) rfl rfl ho (by rw [OwnW.len ho]; omega) hB fun v w' h1 h2 _ => hK v w' h1 (by unfold OwnW; rw [List.map_append]; exact h2)
theorem wget {xs : List Int} {i : Nat} (h : i < xs.length) : (xs.map (Value.int .u32))[i]? = some (Lf.enc (.int .u32) (xs.getD i 0)) := by simp [h, Lf.enc]

/-- The word of four bytes, as the document reads it. -/
theorem beN4 {bs : List UInt8} {n : Nat} (hn : n ≤ 4) : S.beN (bs.take n) < 256 ^ n := by
  have := S.beN_lt (bs.take n)
  exact Nat.lt_of_lt_of_le this (Nat.pow_le_pow_right (by omega) (by simp; omega))
theorem beN_take_succ {bs : List UInt8} {k : Nat} (h : k < bs.length) : S.beN (bs.take (k + 1)) = S.beN (bs.take k) * 256 + bs[k].toNat := by rw [List.take_succ_eq_append_getElem h, S.beN_snoc]
end Go.Proofs.YtlpcoofmfkjjhaaDoor
