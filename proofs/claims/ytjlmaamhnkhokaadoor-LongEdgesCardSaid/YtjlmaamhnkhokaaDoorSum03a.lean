/- Layer 3 (long sums): words, schedules, turns. -/
import Derived.Test.YtjlmaamhnkhokaaDoorSh
import Derived.Test.YtjlmaamhnkhokaaDoorTy
import Derived.Test.YtjlmaamhnkhokaaDoorSpan
import Derived.Test.YtjlmaamhnkhokaaDoorPure02
set_option linter.unusedSimpArgs false
set_option linter.unusedVariables false
namespace Go.S.L
def sh3 : Sha := ⟨.u64, 8, 80, 1, 8, 7, 19, 61, 6, 14, 18, 41, 28, 34, 39,
  [4794697086780616226, 8158064640168781261, 13096744586834688815, 16840607885511220156, 4131703408338449720, 6480981068601479193, 10538285296894168987, 12329834152419229976, 15566598209576043074, 1334009975649890238, 2608012711638119052, 6128411473006802146, 8268148722764581231, 9286055187155687089, 11230858885718282805, 13951009754708518548, 16472876342353939154, 17275323862435702243, 1135362057144423861, 2597628984639134821, 3308224258029322869, 5365058923640841347, 6679025012923562964, 8573033837759648693, 10970295158949994411, 12119686244451234320, 12683024718118986047, 13788192230050041572, 14330467153632333762, 15395433587784984357, 489312712824947311, 1452737877330783856, 2861767655752347644, 3322285676063803686, 5560940570517711597, 5996557281743188959, 7280758554555802590, 8532644243296465576, 9350256976987008742, 10552545826968843579, 11727347734174303076, 12113106623233404929, 14000437183269869457, 14369950271660146224, 15101387698204529176, 15463397548674623760, 17586052441742319658, 1182934255886127544, 1847814050463011016, 2177327727835720531, 2830643537854262169, 3796741975233480872, 4115178125766777443, 5681478168544905931, 6601373596472566643, 7507060721942968483, 8399075790359081724, 8693463985226723168, 9568029438360202098, 10144078919501101548, 10430055236837252648, 11840083180663258601, 13761210420658862357, 14299343276471374635, 14566680578165727644, 15097957966210449927, 16922976911328602910, 17689382322260857208, 500013540394364858, 748580250866718886, 1242879168328830382, 1977374033974150939, 2944078676154940804, 3659926193048069267, 4368137639120453308, 4836135668995329356, 5532061633213252278, 6448918945643986474, 6902733635092675308, 7801388544844847127],
  [7640891576956012808, 13503953896175478587, 4354685564936845355, 11912009170470909681, 5840696475078001361, 11170449401992604703, 2270897969802886507, 6620516959819538809], 16⟩
end Go.S.L
namespace Go.Proofs.YtjlmaamhnkhokaaDoor.L
open Go Go.Eng

theorem turn_arg : ∀ n : Fin 64, 1 ≤ n.val → andI .u64 (IntKind.wrap .u64 (IntKind.wrap .i64 (0 - (n.val : Int)))) 63 = 64 - (n.val : Int) := by decide +kernel
theorem turn_s {x : Int} {n : Nat} {K : Int → World → Prop} {w : World} (h1 : 1 ≤ n) (h2 : n ≤ 63) (hK : K (S.L.sh3.rot x n) w) :
    callS Tryd.prog 20 #[.int .u64 x, .int .i64 (n : Int)] [.one (.int .u64)] K w := by
  refine f20_ok ?_
  unfold f20
  refine f25_ok ?_
  unfold f25
  have ha := turn_arg ⟨n, by omega⟩ h1
  simp only at ha
  rw [ha]
  refine shl_i (by omega) ?_
  rw [show (64 : Int) - (64 - (n : Int)) = n by omega, wrap_u64 (by omega) (by omega)]
  refine shr_i (by omega) ?_
  rw [S.orI_comm]
  exact hK
theorem right_s {x : Int} {n : Nat} {K : Int → World → Prop} {w : World} (h1 : 1 ≤ n) (h2 : n ≤ 63) (hK : ∀ w', Ext w w' → K (S.L.sh3.rot x n) w') :
    callS Tryd.prog 23 #[.int .u64 x, .int .i64 (n : Int)] [.one (.int .u64)] K w := by
  refine f23_ok ?_
  unfold f23
  refine ⟨fun x => Ext w x, Ext.drew _, ?_⟩
  refine shrQ_i (by omega) ?_
  rw [wrap_i64 (by omega) (by omega)]
  refine shlQ_i (by omega) ?_
  exact hK _ (Ext.drew _)

/-- Words in a slice of one's own. -/
abbrev OwnW (w : World) (B : Nat) (s : Sl) (xs : List Int) : Prop := Own w B s 1 (xs.map (Value.int .u64))
theorem OwnW.len {w : World} {B : Nat} {s : Sl} {xs : List Int} (h : OwnW w B s xs) : s.len = xs.length := by have := Own.len h; simp at this; omega
theorem appendW_i {s : Sl} {xs : List Int} {B : Nat} {K : Sl → World → Prop} {w : World} (x : Int) (ho : OwnW w B s xs) (hlen : xs.length ≤ 100000) (hB : B ≤ w.heap.size) (hK : ∀ v w', Fr s.inB w w' → OwnW w' B v (xs ++ [x]) → K v w') :
    semS Tryd.prog (Instr.buildSlice 38 1 #[(0, .int .u64 x)]) (.one .slc) (fun y w => semS Tryd.prog (Builtin.append_ #[38, 38] 38 #[.slice s.a s.len s.cap, .slice y.a y.len y.cap]) (.one .slc) K w) w :=
  append1V_i (.int .u64 x) rfl rfl ho (by rw [OwnW.len ho]; omega) hB fun v w' h1 h2 _ => hK v w' h1 (by unfold OwnW; rw [List.map_append]; exact h2)
theorem wget {xs : List Int} {i : Nat} (h : i < xs.length) : (xs.map (Value.int .u64))[i]? = some (Lf.enc (.int .u64) (xs.getD i 0)) := by simp [h, Lf.enc]

/-- The word of four bytes, as the document reads it. -/
theorem beN4 {bs : List UInt8} {n : Nat} (hn : n ≤ 4) : S.beN (bs.take n) < 256 ^ n := by
  have := S.beN_lt (bs.take n)
  exact Nat.lt_of_lt_of_le this (Nat.pow_le_pow_right (by omega) (by simp; omega))
theorem beN_take_succ {bs : List UInt8} {k : Nat} (h : k < bs.length) : S.beN (bs.take (k + 1)) = S.beN (bs.take k) * 256 + bs[k].toNat := by rw [List.take_succ_eq_append_getElem h, S.beN_snoc]
end Go.Proofs.YtjlmaamhnkhokaaDoor.L
