/- Layer 17 (verity): a reader as plain data. / Layer 17 (verity): a reader in memory; its small methods; a block fetched, and held against the one above. / Layer 17 (verity): the blocks of a path, remembered or read. / Layer 17 (verity): a block is read. -/
import Derived.Test.YteopoodhclljjaaGreatDoorG17f
import Derived.Test.YteopoodhclljjaaGreatDoorG17a
import Derived.Test.YteopoodhclljjaaGreatDoorG17g
import Derived.Test.YteopoodhclljjaaGreatDoorG17h
import Derived.Test.YteopoodhclljjaaGreatDoorLib8
set_option linter.unusedSimpArgs false
set_option linter.unusedVariables false
/-! Pure17 -/
namespace Go.S
open Go Go.Eng
/-- A place: a block, and its level. -/
abbrev Pl := Nat × Nat
def Shp.pl (x : Shp) (i k : Nat) : Pl := (i / x.aN ^ k, k)
abbrev Kn := List (Pl × List UInt8)
/-- What is fixed of a reader. -/
structure Vq where
  a : Int
  salt : List UInt8
  dig : List UInt8
  x : Shp
  mode : Int
structure Vr where
  broken : Bool
  known : Kn
  trace : List (List UInt8)
def klook (kn : Kn) (p : Pl) : Option (List UInt8) := (kn.find? fun e => e.1 == p).map (·.2)
theorem klook_snoc {kn : Kn} {p x : Pl} {b : List UInt8} (h : klook kn p = none) : klook (kn ++ [(p, b)]) x = if x = p then some b else klook kn x := by
  unfold klook at *
  rw [List.find?_append]
  by_cases hx : x = p
  · subst hx
    have hn : kn.find? (fun e => e.1 == x) = none := by simpa using h
    rw [hn, if_pos rfl]; simp
  · rw [if_neg hx]
    cases hf : kn.find? (fun e => e.1 == x) with
    | some e => rfl
    | none =>
      rw [List.find?_cons_of_neg (by simpa using fun h => hx (Eq.symm h))]; rfl
theorem klook_mem {kn : Kn} {p : Pl} {b : List UInt8} (h : klook kn p = some b) : (p, b) ∈ kn := by
  unfold klook at h
  obtain ⟨e, he, rfl⟩ := Option.map_eq_some_iff.1 h
  have h1 := List.mem_of_find?_eq_some he
  have h2 := List.find?_some he
  have : e.1 = p := by simpa using h2
  rw [← this]; exact h1
theorem klook_none {kn : Kn} {p : Pl} : klook kn p = none ↔ ∀ e ∈ kn, e.1 ≠ p := by
  unfold klook
  rw [Option.map_eq_none_iff, List.find?_eq_none]
  simp
theorem klook_of {kn : Kn} (hn : (kn.map (·.1)).Nodup) {p : Pl} {b : List UInt8} (h : (p, b) ∈ kn) : klook kn p = some b := by
  induction kn with
  | nil => cases h
  | cons e kn ih =>
    rw [List.map_cons, List.nodup_cons] at hn
    rcases List.mem_cons.1 h with rfl | h
    · simp [klook]
    · have hne : e.1 ≠ p := fun he => hn.1 (List.mem_map.2 ⟨_, h, he.symm⟩)
      have := ih hn.2 h
      unfold klook at this ⊢
      rw [List.find?_cons_of_neg (by simpa using hne)]; exact this
section
variable (F : Pl → List UInt8 × Int) (q : Vq) (kn : Kn) (n : Nat)
/-- The first place of a path that is remembered. -/
def vfirst : Nat := (List.range (q.x.h + 1)).findIdx fun k => (klook kn (q.x.pl n k)).isSome
/-- A path's blocks: fetched, or remembered. -/
def vblk (k : Nat) : List UInt8 := if k < vfirst q kn n then (F (q.x.pl n k)).1 else (klook kn (q.x.pl n k)).getD []
def vput (B : Nat → List UInt8) : Kn → Nat → Kn
  | kn, 0 => kn
  | kn, k + 1 => if kn.length < 64 then vput B (kn ++ [(q.x.pl n (k + 1), B (k + 1))]) k else kn
end
section
variable {F : Pl → List UInt8 × Int} {q : Vq} {kn : Kn} {n : Nat}
theorem vfirst_le : vfirst q kn n ≤ q.x.h + 1 := by
  have := List.findIdx_le_length (p := fun k => (klook kn (q.x.pl n k)).isSome) (xs := List.range (q.x.h + 1))
  rwa [List.length_range] at this
theorem vfirst_lt {k : Nat} (h : k < vfirst q kn n) : klook kn (q.x.pl n k) = none := by
  have hl := vfirst_le (q := q) (kn := kn) (n := n)
  have := List.not_of_lt_findIdx (p := fun k => (klook kn (q.x.pl n k)).isSome) (xs := List.range (q.x.h + 1)) (i := k) h
  simpa using this
theorem vfirst_at (h : vfirst q kn n ≤ q.x.h) : ∃ b, klook kn (q.x.pl n (vfirst q kn n)) = some b := by
  have h1 := List.findIdx_getElem (p := fun k => (klook kn (q.x.pl n k)).isSome) (xs := List.range (q.x.h + 1)) (w := by show vfirst q kn n < _; rw [List.length_range]; omega)
  rw [List.getElem_range] at h1
  exact Option.isSome_iff_exists.1 h1
theorem vfirst_eq {f : Nat} (hf : f ≤ q.x.h + 1) (h1 : ∀ k, k < f → klook kn (q.x.pl n k) = none) (h2 : f ≤ q.x.h → (klook kn (q.x.pl n f)).isSome) : vfirst q kn n = f := by
  have hl := vfirst_le (q := q) (kn := kn) (n := n)
  rcases Nat.lt_trichotomy (vfirst q kn n) f with h | h | h
  · obtain ⟨b, hb⟩ := vfirst_at (q := q) (kn := kn) (n := n) (by omega)
    rw [h1 _ h] at hb; cases hb
  · exact h
  · have := vfirst_lt h
    have h3 := h2 (by omega)
    rw [this] at h3; cases h3
end
end Go.S
namespace Go.Proofs.YteopoodhclljjaaGreatDoor
open Go Go.Eng
open Go.S (Pl Kn Vq Vr klook vfirst vblk vput)
/-- Is a path's block right by the one above it, or the root? -/
def vhold (q : Vq) (n : Nat) (B : Nat → List UInt8) (k : Nat) : Bool := chk q.a q.salt (if k = q.x.h then q.dig else B (k + 1)) (if k = q.x.h then 0 else (offAt q.x n k : Int)) (B k)
def vread (F : Pl → List UInt8 × Int) (q : Vq) (R : Vr) (i : Int) : List UInt8 × Int × Vr :=
  if R.broken = true then ([], 58, ⟨true, R.known, []⟩)
  else if ¬ (0 ≤ i ∧ i < q.x.c 0) then ([], 13, ⟨false, R.known, []⟩)
  else match (List.range (vfirst q R.known i.toNat)).find? fun k => decide ((F (q.x.pl i.toNat k)).2 ≠ 0) with
    | some k => ([], (F (q.x.pl i.toNat k)).2, ⟨false, R.known, []⟩)
    | none => if (List.range (vfirst q R.known i.toNat)).any (fun k => !vhold q i.toNat (vblk F q R.known i.toNat) k) = true then ([], 54, ⟨q.mode == 1, R.known, []⟩)
      else (vblk F q R.known i.toNat 0, 0, ⟨false, vput q i.toNat (vblk F q R.known i.toNat) R.known (vfirst q R.known i.toNat - 1), (List.range (q.x.h + 1)).map (vblk F q R.known i.toNat)⟩)
structure VqOk (q : Vq) : Prop where
  x : q.x.Ok
  right : q.x.right = true
  a : S.dsz q.a ≠ 0
  d : q.x.d = S.dsz q.a
  salt : q.salt.length ≤ 64
  dig : q.dig.length = q.x.dN
theorem VqOk.len {q : Vq} (h : VqOk q) (y : List UInt8) : (S.dg q.a q.salt y).length = q.x.dN := by rw [S.dg_len h.a, ← h.d]; rfl
/-- What is remembered: each place once, none of the data's, each checked by what is remembered. -/
structure VOk (q : Vq) (kn : Kn) : Prop where
  nodup : (kn.map (·.1)).Nodup
  len : kn.length ≤ 64
  lev : ∀ e ∈ kn, 1 ≤ e.1.2 ∧ e.1.2 ≤ q.x.h ∧ e.1.1 < q.x.c e.1.2 ∧ e.2.length = q.x.bN
  top : ∀ e ∈ kn, e.1.2 = q.x.h → S.dg q.a q.salt e.2 = q.dig
  way : ∀ e ∈ kn, e.1.2 < q.x.h → ∃ b, ((e.1.1 / q.x.aN, e.1.2 + 1), b) ∈ kn ∧ (b.drop (e.1.1 % q.x.aN * q.x.dN)).take q.x.dN = S.dg q.a q.salt e.2
theorem VOk.nil (q : Vq) : VOk q [] := ⟨List.nodup_nil, by simp, (fun e h => by cases h), (fun e h => by cases h), fun e h => by cases h⟩
/-- A way from a block to the root. -/
structure VWay (q : Vq) (n : Nat) (T : List (List UInt8)) : Prop where
  len : T.length = q.x.h + 1
  each : ∀ t ∈ T, t.length = q.x.bN
  way : ∀ k a b, T[k]? = some a → T[k + 1]? = some b → (b.drop (offAt q.x n k)).take q.x.dN = S.dg q.a q.salt a
  top : ∀ t, T[q.x.h]? = some t → S.dg q.a q.salt t = q.dig
section
variable {F : Pl → List UInt8 × Int} {q : Vq} {kn : Kn} {n : Nat}
theorem chk_iff (hq : VqOk q) {above b : List UInt8} {at_ : Nat} (h : at_ + q.x.dN ≤ above.length) (hl : above.length ≤ 68719476736) : chk q.a q.salt above (at_ : Int) b = true ↔ (above.drop at_).take q.x.dN = S.dg q.a q.salt b := by
  have hd : S.dsz q.a = (q.x.dN : Int) := by rw [← hq.d]; exact hq.x.d
  have hw : S.within (at_ : Int) (q.x.dN : Int) (above.length : Int) = true := S.within_iff.2 ⟨by omega, by omega, by omega, by omega, by omega⟩
  have hc : S.cut above (at_ : Int) (q.x.dN : Int) = ((above.drop at_).take q.x.dN, 0) := by
    unfold S.cut
    rw [hw]; rfl
  unfold chk
  rw [digErr_ok hq.a hq.salt, hd, hc]
  rw [show ((0 : Int) == 0) = true from rfl, Bool.true_and, Bool.true_and, beq_iff_eq]
  exact eq_comm
theorem offAt_le (hq : VqOk q) (n k : Nat) : offAt q.x n k + q.x.dN ≤ q.x.bN := by
  have ha := hq.x.a1
  have hm := Nat.mod_lt (n / q.x.aN ^ k) (show q.x.aN > 0 by omega)
  have := Nat.mul_le_mul_right q.x.dN (show n / q.x.aN ^ k % q.x.aN + 1 ≤ q.x.aN by omega)
  rw [Nat.succ_mul, ← hq.x.ba] at this
  exact this
theorem vhold_iff (hq : VqOk q) {B : Nat → List UInt8} {k : Nat} (hk : k ≤ q.x.h) (hB : k < q.x.h → (B (k + 1)).length = q.x.bN) : vhold q n B k = true ↔ if k = q.x.h then S.dg q.a q.salt (B k) = q.dig else ((B (k + 1)).drop (offAt q.x n k)).take q.x.dN = S.dg q.a q.salt (B k) := by
  have hb2 := hq.x.b2
  unfold vhold
  by_cases h : k = q.x.h
  · simp only [h, if_true]
    have hd := hq.dig
    have hdd := hq.x.dd
    rw [show (0 : Int) = ((0 : Nat) : Int) by rfl, chk_iff hq (by omega) (by omega), List.drop_zero, List.take_of_length_le (by omega)]
    exact eq_comm
  · simp only [h, if_false]
    have hl := hB (by omega)
    have ho := offAt_le hq n k
    exact chk_iff hq (by omega) (by omega)
/-- All that is above a place that is remembered. -/
theorem VOk.up (hv : VOk q kn) {k : Nat} (hk : k < q.x.h) {b : List UInt8} (h : klook kn (q.x.pl n k) = some b) : ∃ b', klook kn (q.x.pl n (k + 1)) = some b' ∧ (b'.drop (offAt q.x n k)).take q.x.dN = S.dg q.a q.salt b := by
  have hm := S.klook_mem h
  obtain ⟨b', h1, h2⟩ := hv.way _ hm hk
  refine ⟨b', ?_, h2⟩
  have := S.klook_of hv.nodup h1
  unfold S.Shp.pl
  rw [div_pow_succ]
  exact this
theorem VOk.above (hv : VOk q kn) : ∀ {d : Nat}, vfirst q kn n + d ≤ q.x.h → ∃ b, klook kn (q.x.pl n (vfirst q kn n + d)) = some b
  | 0, h => S.vfirst_at h
  | d + 1, h => by
    obtain ⟨b, hb⟩ := VOk.above hv (d := d) (by omega)
    obtain ⟨b', hb', _⟩ := hv.up (by omega) hb
    exact ⟨b', hb'⟩
theorem vblk_lo {k : Nat} (h : k < vfirst q kn n) : vblk F q kn n k = (F (q.x.pl n k)).1 := if_pos h
theorem vblk_hi (hv : VOk q kn) {k : Nat} (h : vfirst q kn n ≤ k) (hk : k ≤ q.x.h) : klook kn (q.x.pl n k) = some (vblk F q kn n k) := by
  obtain ⟨b, hb⟩ := hv.above (n := n) (d := k - vfirst q kn n) (by omega)
  rw [show vfirst q kn n + (k - vfirst q kn n) = k by omega] at hb
  unfold vblk
  rw [if_neg (by omega), hb]; rfl
/-- A place, and its block, put to what is remembered. -/
theorem VOk.snoc (hv : VOk q kn) {p : Pl} {b : List UInt8} (hp : klook kn p = none) (hl : kn.length < 64) (h1 : 1 ≤ p.2 ∧ p.2 ≤ q.x.h ∧ p.1 < q.x.c p.2 ∧ b.length = q.x.bN) (h2 : p.2 = q.x.h → S.dg q.a q.salt b = q.dig)
    (h3 : p.2 < q.x.h → ∃ b', ((p.1 / q.x.aN, p.2 + 1), b') ∈ kn ∧ (b'.drop (p.1 % q.x.aN * q.x.dN)).take q.x.dN = S.dg q.a q.salt b) : VOk q (kn ++ [(p, b)]) := by
  have hn := S.klook_none.1 hp
  refine ⟨?_, by simp; omega, fun e he => ?_, fun e he => ?_, fun e he hh => ?_⟩
  · rw [List.map_append, List.nodup_append]
    refine ⟨hv.nodup, by simp, ?_⟩
    intro x hx y hy
    obtain ⟨e, he, rfl⟩ := List.mem_map.1 hx
    simp at hy; subst hy
    exact hn e he
  · rcases List.mem_append.1 he with he | he
    · exact hv.lev e he
    · simp at he; subst he; exact h1
  · rcases List.mem_append.1 he with he | he
    · exact hv.top e he
    · simp at he; subst he; exact h2
  · rcases List.mem_append.1 he with he | he
    · obtain ⟨b', q1, q2⟩ := hv.way e he hh
      exact ⟨b', List.mem_append_left _ q1, q2⟩
    · simp at he; subst he
      obtain ⟨b', q1, q2⟩ := h3 hh
      exact ⟨b', List.mem_append_left _ q1, q2⟩
theorem pl_ne {x : S.Shp} {i j k : Nat} (h : j ≠ k) : x.pl i j ≠ x.pl i k := fun e => h (congrArg Prod.snd e)
theorem VOk.put (hq : VqOk q) (hn : n < q.x.c 0) {B : Nat → List UInt8} : ∀ (k : Nat) {kn : Kn}, VOk q kn → k ≤ q.x.h → (∀ j, 1 ≤ j → j ≤ k → klook kn (q.x.pl n j) = none) → (∀ j, 1 ≤ j → j ≤ k → (B j).length = q.x.bN) →
    (∀ j, 1 ≤ j → j ≤ k → if j = q.x.h then S.dg q.a q.salt (B j) = q.dig else ((B (j + 1)).drop (offAt q.x n j)).take q.x.dN = S.dg q.a q.salt (B j)) → (k < q.x.h → 1 ≤ k → (q.x.pl n (k + 1), B (k + 1)) ∈ kn) → VOk q (vput q n B kn k)
  | 0, kn, hv, _, _, _, _, _ => hv
  | k + 1, kn, hv, hk, hno, hl, hw, hup => by
    unfold vput
    split
    · rename_i h64
      have hw1 := hw (k + 1) (by omega) (Nat.le_refl _)
      refine VOk.put hq hn k (hv.snoc (hno _ (by omega) (Nat.le_refl _)) h64 ⟨by show 1 ≤ k + 1; omega, hk, path_in hq.x hn _, hl _ (by omega) (Nat.le_refl _)⟩ (fun h => ?_) fun h => ?_) (by omega) (fun j h1 h2 => ?_) (fun j h1 h2 => hl j h1 (by omega)) (fun j h1 h2 => hw j h1 (by omega)) fun _ _ => List.mem_append_right _ (by simp)
      · have h : k + 1 = q.x.h := h
        rw [if_pos h] at hw1; exact hw1
      · have h : k + 1 < q.x.h := h
        rw [if_neg (by omega)] at hw1
        refine ⟨B (k + 1 + 1), ?_, hw1⟩
        have := hup h (by omega)
        unfold S.Shp.pl at this
        rw [div_pow_succ] at this
        exact this
      · rw [S.klook_snoc (hno _ (by omega) (Nat.le_refl _)), if_neg (pl_ne (by omega))]
        exact hno j h1 (by omega)
    · exact hv
theorem vput_sub {B : Nat → List UInt8} : ∀ (k : Nat) {kn : Kn} {e : Pl × List UInt8}, e ∈ vput q n B kn k → e ∈ kn ∨ ∃ j, 1 ≤ j ∧ j ≤ k ∧ e = (q.x.pl n j, B j)
  | 0, kn, e, h => .inl h
  | k + 1, kn, e, h => by
    unfold vput at h
    split at h
    · rcases vput_sub k h with h | ⟨j, h1, h2, rfl⟩
      · rcases List.mem_append.1 h with h | h
        · exact .inl h
        · simp at h; exact .inr ⟨k + 1, by omega, Nat.le_refl _, h⟩
      · exact .inr ⟨j, h1, by omega, rfl⟩
    · exact .inl h
/-- What a read leaves, and what it tells. -/
theorem vread_ok (hq : VqOk q) (hF : ∀ p : Pl, p.2 ≤ q.x.h → p.1 < q.x.c p.2 → (F p).2 = 0 → (F p).1.length = q.x.bN) {R : Vr} (hv : VOk q R.known) (i : Int) :
    VOk q (vread F q R i).2.2.known ∧ ((vread F q R i).2.1 ≠ 0 → (vread F q R i).1 = [] ∧ (vread F q R i).2.2.trace = []) ∧
    ((vread F q R i).2.1 = 0 → ∃ n : Nat, i = n ∧ n < q.x.c 0 ∧ VWay q n (vread F q R i).2.2.trace ∧ (vread F q R i).2.2.trace[0]? = some (vread F q R i).1) := by
  unfold vread
  split
  · exact ⟨hv, fun _ => ⟨rfl, rfl⟩, fun h => by cases h⟩
  split
  · exact ⟨hv, fun _ => ⟨rfl, rfl⟩, fun h => by cases h⟩
  rename_i hb hi
  obtain ⟨n, rfl⟩ : ∃ n : Nat, i = n := ⟨i.toNat, by omega⟩
  have hn : n < q.x.c 0 := by omega
  rw [Int.toNat_natCast]
  split
  · rename_i k hk
    have := List.find?_some hk
    have hne : (F (q.x.pl n k)).2 ≠ 0 := by simpa using this
    exact ⟨hv, fun _ => ⟨rfl, rfl⟩, fun h => absurd h hne⟩
  rename_i hno
  have hf0 : ∀ k, k < vfirst q R.known n → (F (q.x.pl n k)).2 = 0 := fun k hk => by
    have := List.find?_eq_none.1 hno k (List.mem_range.2 hk)
    simpa using this
  split
  · exact ⟨hv, fun _ => ⟨rfl, rfl⟩, fun h => by cases h⟩
  rename_i hall
  have hfl := S.vfirst_le (q := q) (kn := R.known) (n := n)
  have hlen : ∀ k, k ≤ q.x.h → (vblk F q R.known n k).length = q.x.bN := fun k hk => by
    by_cases h : k < vfirst q R.known n
    · rw [vblk_lo h]; exact hF _ hk (path_in hq.x hn k) (hf0 k h)
    · exact (hv.lev (q.x.pl n k, vblk F q R.known n k) (S.klook_mem (vblk_hi (F := F) hv (by omega) hk))).2.2.2
  have hhold : ∀ k, k ≤ q.x.h → if k = q.x.h then S.dg q.a q.salt (vblk F q R.known n k) = q.dig else ((vblk F q R.known n (k + 1)).drop (offAt q.x n k)).take q.x.dN = S.dg q.a q.salt (vblk F q R.known n k) := fun k hk => by
    by_cases h : k < vfirst q R.known n
    · rw [← vhold_iff hq hk fun h => hlen _ (by omega)]
      apply Classical.byContradiction
      intro hc
      exact hall (List.any_eq_true.2 ⟨k, List.mem_range.2 h, by simpa using hc⟩)
    · have hl := vblk_hi (F := F) hv (n := n) (by omega) hk
      split
      · rename_i he
        exact hv.top (q.x.pl n k, vblk F q R.known n k) (S.klook_mem hl) he
      · obtain ⟨b', h1, h2⟩ := hv.up (by omega) hl
        have h3 := vblk_hi (F := F) hv (n := n) (k := k + 1) (by omega) (by omega)
        rw [h1] at h3
        rw [← Option.some.inj h3]; exact h2
  refine ⟨?_, fun h => absurd rfl h, fun _ => ⟨n, rfl, hn, ⟨by simp, ?_, ?_, ?_⟩, ?_⟩⟩
  · refine VOk.put hq hn _ hv (by omega) (fun j h1 h2 => S.vfirst_lt (by omega)) (fun j h1 h2 => hlen j (by omega)) (fun j h1 h2 => hhold j (by omega)) fun h1 h2 => ?_
    exact S.klook_mem (vblk_hi (F := F) hv (n := n) (by omega) (by omega))
  · intro t ht
    obtain ⟨k, hk, rfl⟩ := List.mem_map.1 ht
    have := List.mem_range.1 hk
    exact hlen k (by omega)
  · intro k a b ha hb
    rw [List.getElem?_map] at ha hb
    obtain ⟨k1, hk1, rfl⟩ := Option.map_eq_some_iff.1 ha
    obtain ⟨k2, hk2, rfl⟩ := Option.map_eq_some_iff.1 hb
    obtain ⟨h1, rfl⟩ := List.getElem?_eq_some_iff.1 hk1
    obtain ⟨h2, rfl⟩ := List.getElem?_eq_some_iff.1 hk2
    simp only [List.getElem_range, List.length_range] at h1 h2 ⊢
    have := hhold k (by omega)
    rwa [if_neg (by omega)] at this
  · intro t ht
    rw [List.getElem?_map, List.getElem?_range (by omega)] at ht
    cases ht
    have := hhold q.x.h (Nat.le_refl _)
    rwa [if_pos rfl] at this
  · rw [List.getElem?_map, List.getElem?_range (by omega)]; rfl
/-! ### over a drive that has the data, and their tree -/
/-- What is remembered is the tree's. -/
def VFair (q : Vq) (data : List UInt8) (kn : Kn) : Prop := ∀ e ∈ kn, e.2 = q.x.blk (S.dg q.a q.salt) data e.1.2 e.1.1
def FFair (q : Vq) (data : List UInt8) (F : Pl → List UInt8 × Int) : Prop := ∀ p : Pl, p.2 ≤ q.x.h → p.1 < q.x.c p.2 → F p = (q.x.blk (S.dg q.a q.salt) data p.2 p.1, 0)
theorem FFair.len (hq : VqOk q) {data : List UInt8} (h : FFair q data F) : ∀ p : Pl, p.2 ≤ q.x.h → p.1 < q.x.c p.2 → (F p).2 = 0 → (F p).1.length = q.x.bN := fun p h1 h2 _ => by
  rw [h p h1 h2]; exact S.Shp.blk_len hq.x hq.len _ _
theorem vread_fair (hq : VqOk q) {data : List UInt8} (hF : FFair q data F) (hr : q.dig = q.x.root (S.dg q.a q.salt) data) {R : Vr} (hv : VOk q R.known) (hfair : VFair q data R.known) (hb : R.broken = false) (i : Int) :
    VFair q data (vread F q R i).2.2.known ∧ (vread F q R i).2.2.broken = false ∧ (¬ (0 ≤ i ∧ i < q.x.c 0) → (vread F q R i).1 = [] ∧ (vread F q R i).2.1 = 13 ∧ (vread F q R i).2.2.trace = []) ∧
    (∀ n : Nat, i = n → n < q.x.c 0 → (vread F q R i).1 = q.x.blk (S.dg q.a q.salt) data 0 n ∧ (vread F q R i).2.1 = 0 ∧ (vread F q R i).2.2.trace = q.x.onPath (S.dg q.a q.salt) data n ∧ ∃ B, (vread F q R i).2.2.known = vput q n B R.known (vfirst q R.known n - 1)) := by
  unfold vread
  rw [if_neg (by rw [hb]; simp)]
  split
  · rename_i hi
    exact ⟨hfair, rfl, fun _ => ⟨rfl, rfl, rfl⟩, fun n h1 h2 => absurd ⟨by omega, by omega⟩ hi⟩
  rename_i hi
  obtain ⟨n, rfl⟩ : ∃ n : Nat, i = n := ⟨i.toNat, by omega⟩
  have hn : n < q.x.c 0 := by omega
  rw [Int.toNat_natCast]
  have hfl := S.vfirst_le (q := q) (kn := R.known) (n := n)
  have hbk : ∀ k, k ≤ q.x.h → vblk F q R.known n k = q.x.blk (S.dg q.a q.salt) data k (n / q.x.aN ^ k) := fun k hk => by
    by_cases h : k < vfirst q R.known n
    · rw [vblk_lo h, hF _ hk (path_in hq.x hn k)]; rfl
    · exact hfair (q.x.pl n k, vblk F q R.known n k) (S.klook_mem (vblk_hi (F := F) hv (by omega) hk))
  have hno : (List.range (vfirst q R.known n)).find? (fun k => decide ((F (q.x.pl n k)).2 ≠ 0)) = none := List.find?_eq_none.2 fun k hk => by
    have := List.mem_range.1 hk
    rw [hF _ (by show k ≤ q.x.h; omega) (path_in hq.x hn k)]; simp
  rw [hno]
  have hall : (List.range (vfirst q R.known n)).any (fun k => !vhold q n (vblk F q R.known n) k) = false := List.any_eq_false.2 fun k hk => by
    have hk' : k ≤ q.x.h := by have := List.mem_range.1 hk; omega
    have hlen := S.Shp.blk_len (data := data) hq.x hq.len
    have : vhold q n (vblk F q R.known n) k = true := by
      rw [vhold_iff hq hk' fun h => by rw [hbk _ (by omega)]; exact hlen _ _]
      split
      · rename_i he
        subst he
        rw [hbk _ (Nat.le_refl _), hr]
        have := path_in hq.x hn q.x.h
        rw [S.Shp.h_top hq.x] at this
        rw [Nat.lt_one_iff.1 this]; rfl
      · rw [hbk _ (by omega), hbk _ hk', div_pow_succ]
        exact S.Shp.blk_dig hq.x hq.len (path_in hq.x hn k)
    simp [this]
  dsimp only
  rw [if_neg (by rw [hall]; simp)]
  refine ⟨fun e he => ?_, rfl, fun h => absurd ⟨by omega, by omega⟩ h, fun m h1 _ => ?_⟩
  · rcases vput_sub _ he with he | ⟨j, h1, h2, rfl⟩
    · exact hfair e he
    · exact hbk j (by omega)
  · obtain rfl : n = m := by omega
    refine ⟨by rw [hbk 0 (by omega), Nat.pow_zero, Nat.div_one], rfl, ?_, _, rfl⟩
    unfold S.Shp.onPath
    exact List.map_congr_left fun k hk => hbk k (by have := List.mem_range.1 hk; omega)
end
end Go.Proofs.YteopoodhclljjaaGreatDoor

/-! Ver17a -/
namespace Go.S
open Go Go.Eng
/-- A partition's stretch, read. -/
def pread (b : List UInt8) (bad : Int → Bool) (off len : Int) : List UInt8 × Int :=
  if within off len b.length = false then ([], 10) else if (Area.mk [] b bad).badIn off len then ([], 41) else ((b.drop off.toNat).take len.toNat, 0)
def vfetch (x : Shp) (off : Int) (b : List UInt8) (bad : Int → Bool) (p : Pl) : List UInt8 × Int :=
  if 1 ≤ p.2 then pread b bad (off + ((p.1 + x.sumA p.2) * x.bN : Nat)) x.bN
  else if (pread b bad (p.1 * x.bN : Nat) (min x.bN (x.sN - p.1 * x.bN) : Nat)).2 = 0 then (fit x.bN (pread b bad (p.1 * x.bN : Nat) (min x.bN (x.sN - p.1 * x.bN) : Nat)).1, 0)
  else ([], (pread b bad (p.1 * x.bN : Nat) (min x.bN (x.sN - p.1 * x.bN) : Nat)).2)
theorem pread_len {b : List UInt8} {bad : Int → Bool} {off len : Int} (h : (pread b bad off len).2 = 0) : ((pread b bad off len).1.length : Int) = len ∧ 0 ≤ len := by
  unfold pread at h ⊢
  split at h
  · cases h
  · rename_i h1
    split at h
    · cases h
    · rename_i h2
      rw [if_neg h1, if_neg h2]
      obtain ⟨q1, q2, q3, q4, q5⟩ := within_iff.1 (by simpa using h1)
      refine ⟨?_, q2⟩
      simp only [List.length_take, List.length_drop]
      omega
theorem pread_err {b : List UInt8} {bad : Int → Bool} {off len : Int} (h : (pread b bad off len).2 ≠ 0) : (pread b bad off len).1 = [] := by
  unfold pread at h ⊢
  split
  · rfl
  · rename_i h1
    split
    · rfl
    · rename_i h2
      rw [if_neg h1, if_neg h2] at h
      exact absurd rfl h
theorem vfetch_len {x : Shp} (o : x.Ok) {off : Int} {b : List UInt8} {bad : Int → Bool} (p : Pl) (h1 : p.2 ≤ x.h) (h2 : p.1 < x.c p.2) (h : (vfetch x off b bad p).2 = 0) : (vfetch x off b bad p).1.length = x.bN := by
  unfold vfetch at h ⊢
  split at h
  · rename_i hp
    rw [if_pos hp]
    have := pread_len h
    omega
  · rename_i hp
    rw [if_neg hp]
    split at h
    · rename_i he
      rw [if_pos he]
      have := pread_len he
      exact fit_len (by omega)
    · rename_i he
      exact absurd h he
theorem pread_one {name b : List UInt8} {bad : Int → Bool} {c n off len : Int} : ∃ c' n', (one name b bad (-1) [] false c n).read name off len = ((pread b bad off len).1, (pread b bad off len).2, one name b bad (-1) [] false c' n') := by
  by_cases hw : within off len b.length = true
  · have hp : pread b bad off len = if (Area.mk [] b bad).badIn off len then ([], 41) else ((b.drop off.toNat).take len.toNat, 0) := by
      unfold pread
      rw [if_neg (by rw [hw]; simp)]
    rw [read_one hw, hp]
    have hb : (Area.mk name b bad).badIn off len = (Area.mk [] b bad).badIn off len := rfl
    rw [hb]
    split
    · exact ⟨c, n, rfl⟩
    · exact ⟨_, _, rfl⟩
  · have hw : within off len b.length = false := by simpa using hw
    unfold pread
    rw [read_oneX hw, if_pos hw]
    exact ⟨c, n, rfl⟩
end Go.S
namespace Go.Proofs.YteopoodhclljjaaGreatDoor
open Go Go.Eng
open Go.S (Pl Kn Vq Vr klook vfirst vblk vput)
theorem neNilV_i {P : Program} {w : World} {t e sz : Nat} {z : Value} [h : SliceTy P t e sz z] {o1 o2 : Operand} {s : Sl} {K : Bool → World → Prop} (hK : K (!s.a.isNone) w) : semS P (binS .neq t o1 o2 (.slice s.a s.len s.cap) (.slice none 0 0)) (.one .bool) K w := by
  refine ⟨.bool (!s.a.isNone), w, ?_, hK⟩
  have : (binOp .neq t (.slice s.a s.len s.cap) (.slice none 0 0)).run P w = .ok (.bool (!s.a.isNone)) w := by
    simp only [binOp]
    simp [Op.equal, Op.maxDepth, Lib.run_equalIn_slice_nil w 9999 t e s.a s.len s.cap 0 0 h.und]
  have hg : ∀ a b c : Option Addr, (eqGuard .neq t o1 o2 (.slice s.a s.len s.cap) (.slice none 0 0)).run P w = .ok () w := fun _ _ _ => by simp [eqGuard]
  simp only [binS, Sem.run_bind, hg none none none, Result.andThen_ok, this]
/-- The one partition's name. -/
def pn : List UInt8 := [112]
/-- A drive of the one partition, between the world w0 and block B. -/
structure P1 (w0 w : World) (B gd : Nat) (L : Lay) (b : List UInt8) (bad : Int → Bool) : Prop where
  at_ : ∃ c n, DriveAt w gd L (S.one pn b bad (-1) [] false c n)
  lo : ∀ k, L.inD gd k → w0.heap.size ≤ k ∧ k < B
  e0 : Ext w0 w
section
variable {w0 w w' : World} {B gd : Nat} {L : Lay} {b : List UInt8} {bad : Int → Bool}
theorem P1.fr {S : Nat → Prop} (h : P1 w0 w B gd L b bad) (hf : Fr S w w') (hs : ∀ k, L.inD gd k → ¬ S k) (h0 : ∀ k, S k → w0.heap.size ≤ k) : P1 w0 w' B gd L b bad :=
  ⟨let ⟨c, n, h1⟩ := h.at_; ⟨c, n, h1.fr hf hs⟩, h.lo, Ext.own h.e0 hf h0⟩
theorem P1.ext (h : P1 w0 w B gd L b bad) (e : Ext w w') : P1 w0 w' B gd L b bad := h.fr e (fun _ _ => id) fun _ h => h.elim
theorem P1.gdlt (h : P1 w0 w B gd L b bad) : w0.heap.size ≤ gd ∧ gd < B := h.lo _ (.inl rfl)
theorem P1.in (h : P1 w0 w B gd L b bad) {k : Nat} (hk : L.inD gd k) : k < w.heap.size := by
  obtain ⟨c, n, h1⟩ := h.at_
  exact h1.lt hk
theorem P1.len (h : P1 w0 w B gd L b bad) : b.length ≤ 1048576 := by
  obtain ⟨c, n, h⟩ := h.at_
  have := (h.areas 0 (by simp [S.one])).len
  exact this
theorem pRead_s {name : ByteArray} {off len : Int} {K : Sl → Int → World → Prop} (h : P1 w0 w B gd L b bad) (hn : name = str pn) (ho : S.I64 off) (hl : S.I64 len)
    (hK : ∀ v w', Fr (fun k => k = gd) w w' → P1 w0 w' B gd L b bad → OwnB w' w.heap.size v (S.pread b bad off len).1 → K v (S.pread b bad off len).2 w') :
    callS Tryz.prog 32 #[.pointer (some (at_ gd 0)), .string name, .int .i64 off, .int .i64 len] [.one .slc, .one (.int .i64)] K w := by
  subst hn
  obtain ⟨c, n, h1⟩ := h.at_
  obtain ⟨c', n', he⟩ := S.pread_one (name := pn) (b := b) (bad := bad) (c := c) (n := n) (off := off) (len := len)
  refine dRead_s h1 ho hl fun v w' f d o => ?_
  rw [str_toList, he] at d o ⊢
  exact hK v w' f ⟨⟨c', n', d⟩, h.lo, Fr.own1 h.e0 f h.gdlt.1⟩ o
end
/-! ### a reader -/
structure KE where
  p : Pl
  s : Sl
  b : List UInt8
/-- What is fixed of a reader in memory. -/
structure VX where
  gr : Nat
  gd : Nat
  d : DM
  mode : Int
def VX.x (X : VX) : S.Shp := X.d.pure.shp
def VX.q (X : VX) : Vq := ⟨X.d.alg, X.d.salt.2, X.d.dig.2, X.x, X.mode⟩
structure VM where
  m : Nat
  ord : Sl
  tr : Sl
  kn : List KE
  trc : List (Sl × List UInt8)
  broken : Bool
def knP (l : List KE) : Kn := l.map fun e => (e.p, e.b)
def VM.pure (V : VM) : Vr := ⟨V.broken, knP V.kn, V.trc.map (·.2)⟩
def kfind (l : List KE) (p : Pl) : Option KE := l.find? fun e => e.p == p
theorem kfind_pure (l : List KE) (p : Pl) : klook (knP l) p = (kfind l p).map (·.b) := by
  unfold klook kfind knP
  rw [List.find?_map, Option.map_map]; rfl
theorem kfind_mem {l : List KE} {p : Pl} {e : KE} (h : kfind l p = some e) : e ∈ l ∧ e.p = p := ⟨List.mem_of_find?_eq_some h, by simpa using List.find?_some h⟩
theorem kfind_snoc {l : List KE} {e : KE} {x : Pl} (h : kfind l e.p = none) : kfind (l ++ [e]) x = if x = e.p then some e else kfind l x := by
  unfold kfind at *
  rw [List.find?_append]
  by_cases hx : x = e.p
  · subst hx
    rw [h, if_pos rfl]; simp
  · rw [if_neg hx]
    cases hf : l.find? (fun y => y.p == x) with
    | some e => rfl
    | none =>
      rw [List.find?_cons_of_neg (by simpa using fun h => hx (Eq.symm h))]; rfl
def vCells (X : VX) (V : VM) : List Value :=
  [.pointer (some (at_ X.gd 0)), .string (str pn), .int .i64 X.d.kind, .int .i64 X.d.alg, .int .i64 X.d.size, .int .i64 X.d.blk, .int .i64 X.d.off, .int .i64 X.d.loc, .string (str X.d.name), slV X.d.salt.1, slV X.d.dig.1, slV X.d.key.1, slV X.d.val.1,
    .int .i64 X.x.s, .int .i64 X.x.b, .int .i64 X.x.d, .int .i64 X.mode, .map (some V.m), slV V.ord, .bool V.broken, slV V.tr]
/-- The blocks that a read may turn, and those that it leaves. -/
def VM.mut (V : VM) (X : VX) (k : Nat) : Prop := k = X.gr ∨ k = V.m ∨ V.ord.inB k
def VM.imm (V : VM) (X : VX) (k : Nat) : Prop := V.tr.inB k ∨ (∃ x ∈ V.trc, x.1.inB k) ∨ (∃ e ∈ V.kn, e.s.inB k) ∨ X.d.salt.1.inB k ∨ X.d.dig.1.inB k
structure XOk (X : VX) : Prop where
  q : VqOk X.q
  off : 0 ≤ X.d.off ∧ X.d.off ≤ 1099511627776
structure VrAt (w : World) (B : Nat) (X : VX) (V : VM) : Prop where
  var : Var w X.gr (vCells X V)
  map : MapAt w kCx slV V.m (fun k => (kfind V.kn (k.i, k.l)).map (·.s))
  ord : Own w B V.ord 1 (V.kn.map fun e => vC e.p.1 e.p.2)
  kn : ∀ e ∈ V.kn, Bts w e.s e.b ∧ e.p.1 < 2 ^ 53 ∧ e.p.2 < 2 ^ 53 ∧ 1 ≤ e.b.length ∧ e.b.length ≤ 4096
  tr : Rd w V.tr 1 (V.trc.map fun x => slV x.1)
  trc : ∀ x ∈ V.trc, Bts w x.1 x.2 ∧ x.2.length ≤ 4096
  salt : Bts w X.d.salt.1 X.d.salt.2
  dig : Bts w X.d.dig.1 X.d.dig.2
  sep : ∀ k, V.imm X k → ¬ V.mut X k ∧ B ≤ k ∧ k < w.heap.size
  lo : ∀ k, V.mut X k → B ≤ k ∧ k < w.heap.size
  ne : X.gr ≠ V.m ∧ ¬ V.ord.inB X.gr ∧ ¬ V.ord.inB V.m
section
variable {w0 w w' : World} {B gd : Nat} {L : Lay} {b : List UInt8} {bad : Int → Bool} {X : VX} {V : VM}
theorem VrAt.fr {S : Nat → Prop} (h : VrAt w B X V) (hf : Fr S w w') (hs : ∀ k, V.mut X k ∨ V.imm X k → ¬ S k) : VrAt w' B X V := by
  have hi : ∀ {s : Sl}, (∀ k, s.inB k → V.imm X k) → ∀ a, s.a = some a → ¬ S a.block := fun h1 a ha => hs _ (.inr (h1 _ ⟨a, ha, rfl⟩))
  refine ⟨h.var.fr hf (hs _ (.inl (.inl rfl))), h.map.fr hf (hs _ (.inl (.inr (.inl rfl)))), h.ord.fr hf fun a ha => hs _ (.inl (.inr (.inr ⟨a, ha, rfl⟩))), fun e he => ⟨(h.kn e he).1.fr hf (hi fun k hk => .inr (.inr (.inl ⟨e, he, hk⟩))), (h.kn e he).2⟩,
    h.tr.fr hf (hi fun k hk => .inl hk), fun x hx => ⟨(h.trc x hx).1.fr hf (hi fun k hk => .inr (.inl ⟨x, hx, hk⟩)), (h.trc x hx).2⟩, h.salt.fr hf (hi fun k hk => .inr (.inr (.inr (.inl hk)))), h.dig.fr hf (hi fun k hk => .inr (.inr (.inr (.inr hk)))), fun k hk => ?_, fun k hk => ?_, h.ne⟩
  · obtain ⟨h1, h2, h3⟩ := h.sep k hk
    exact ⟨h1, h2, Nat.lt_of_lt_of_le h3 hf.size⟩
  · obtain ⟨h2, h3⟩ := h.lo k hk
    exact ⟨h2, Nat.lt_of_lt_of_le h3 hf.size⟩
theorem VrAt.ext (h : VrAt w B X V) (e : Ext w w') : VrAt w' B X V := h.fr e fun _ _ => id
theorem VrAt.in (h : VrAt w B X V) {k : Nat} (hk : V.mut X k ∨ V.imm X k) : B ≤ k ∧ k < w.heap.size := by
  rcases hk with hk | hk
  · exact h.lo k hk
  · exact (h.sep k hk).2
theorem VrAt.rd (h : VrAt w B X V) (hP : P1 w0 w B gd L b bad) (hf : Fr (fun k => k = gd) w w') : VrAt w' B X V := h.fr hf fun k hk e => by
  have h1 := (h.in hk).1
  have h2 := hP.gdlt.2
  omega
/-- The variable's last cells, turned. -/
theorem VrAt.upVar {V' : VM} (h : VrAt w B X V) (hf : Fr (fun k => k = X.gr) w w') (hv : Var w' X.gr (vCells X V')) (h1 : V'.m = V.m) (h2 : V'.ord = V.ord) (h3 : V'.kn = V.kn) (ht : Rd w V'.tr 1 (V'.trc.map fun x => slV x.1)) (htc : ∀ x ∈ V'.trc, Bts w x.1 x.2 ∧ x.2.length ≤ 4096)
    (hsep : ∀ k, (V'.tr.inB k ∨ ∃ x ∈ V'.trc, x.1.inB k) → ¬ V.mut X k ∧ B ≤ k ∧ k < w.heap.size) : VrAt w' B X V' := by
  obtain ⟨m', ord', tr', kn', trc', br'⟩ := V'
  simp only at h1 h2 h3
  subst h1; subst h2; subst h3
  have hm : ∀ k, V.imm X k → k ≠ X.gr := fun k hk e => (h.sep k hk).1 (.inl e)
  have hi : ∀ {s : Sl}, (∀ k, s.inB k → V.imm X k) → ∀ a, s.a = some a → ¬ a.block = X.gr := fun h1 a ha => hm _ (h1 _ ⟨a, ha, rfl⟩)
  have hn : ∀ k, (tr'.inB k ∨ ∃ x ∈ trc', x.1.inB k) → k ≠ X.gr := fun k hk e => (hsep k hk).1 (.inl e)
  refine ⟨hv, h.map.fr hf fun e => h.ne.1 e.symm, h.ord.fr hf fun a ha e => h.ne.2.1 ⟨a, ha, e⟩, fun e he => ⟨(h.kn e he).1.fr hf (hi fun k hk => .inr (.inr (.inl ⟨e, he, hk⟩))), (h.kn e he).2⟩,
    ht.fr hf fun a ha => hn _ (.inl ⟨a, ha, rfl⟩), fun x hx => ⟨(htc x hx).1.fr hf fun a ha => hn _ (.inr ⟨x, hx, a, ha, rfl⟩), (htc x hx).2⟩, h.salt.fr hf (hi fun k hk => .inr (.inr (.inr (.inl hk)))), h.dig.fr hf (hi fun k hk => .inr (.inr (.inr (.inr hk)))), fun k hk => ?_, fun k hk => ?_, h.ne⟩
  · have : ¬ V.mut X k ∧ B ≤ k ∧ k < w.heap.size := by
      rcases hk with hk | hk | hk
      · exact hsep k (.inl hk)
      · exact hsep k (.inr hk)
      · exact h.sep k (.inr (.inr hk))
    exact ⟨this.1, this.2.1, Nat.lt_of_lt_of_le this.2.2 hf.size⟩
  · obtain ⟨q1, q2⟩ := h.lo k hk
    exact ⟨q1, Nat.lt_of_lt_of_le q2 hf.size⟩
theorem vBlocks_s {K : Int → World → Prop} (h : VrAt w B X V) (hx : XOk X) (hK : ∀ w', Ext w w' → K (X.x.c 0 : Int) w') : callS Tryz.prog 11 #[.pointer (some (at_ X.gr 0))] [.one (.int .i64)] K w := by
  refine f11_ok ?_
  unfold f11
  refine nil_i rfl ?_
  refine ldV_i (n := 3) (ls := [.int .i64, .int .i64, .int .i64]) 13 h.var (by simp [vCells]) ?_
  show callS Tryz.prog 33 #[.agg #[.int .i64 X.x.s, .int .i64 X.x.b, .int .i64 X.x.d]] _ _ _
  have hr : X.x.right = true := hx.q.right
  refine sCounts_s (fun h => by rw [hr] at h; cases h) fun _ v w1 e1 o1 => ?_
  have hvl : v.len = X.x.h + 1 := by have := o1.len; simp [S.Shp.cs_len] at this; omega
  exact elem_i (l := .int .i64) (x := (X.x.c 0 : Int)) o1.rd (by omega) (by omega) (by rw [show (0 : Int).toNat = 0 from rfl, List.getElem?_map, S.Shp.cs_get (Nat.zero_le _)]; rfl) (hK w1 e1)
theorem vC_one {l : List KE} : ∀ v ∈ l.map (fun e => vC e.p.1 e.p.2), v.oneCell' = true := fun v hv => by obtain ⟨x, _, rfl⟩ := List.mem_map.1 hv; rfl
theorem vKnown_s {K : Sl → World → Prop} (h : VrAt w B X V) (hl : V.kn.length ≤ 1000000) (hK : ∀ v w', Ext w w' → Own w' w.heap.size v 1 (V.kn.map fun e => vC e.p.1 e.p.2) → K v w') : callS Tryz.prog 20 #[.pointer (some (at_ X.gr 0))] [.one .slc] K w := by
  refine f20_ok ?_
  unfold f20
  refine nil_i rfl ?_
  refine ld1_i (l := .slc) (o := 18) V.ord h.var rfl ?_
  have := h.ord.len
  rw [List.length_map] at this
  exact f44_ok (clone_shape h.ord.rd vC_one (by omega) fun v w' h1 h2 _ => hK v w' h1 h2)
theorem vTrace_s {K : Sl → World → Prop} (h : VrAt w B X V) (hl : V.trc.length ≤ 1000000) (hK : ∀ v w' xs, Ext w w' → Parts w' v xs → xs.map (·.2) = V.trc.map (·.2) → K v w') : callS Tryz.prog 19 #[.pointer (some (at_ X.gr 0))] [.one .slc] K w := by
  refine f19_ok ?_
  unfold f19
  refine nil_i rfl ?_
  refine ld1_i (l := .slc) (o := 20) V.tr h.var rfl ?_
  have htl : V.tr.len = V.trc.length := by have := h.tr.len; rw [List.length_map] at this; omega
  refine loop_i (fun (st : Sl × Int) w' => ∃ (k : Nat) (xs : List (Sl × List UInt8)), st.2 = k ∧ k ≤ V.trc.length ∧ Ext w w' ∧ xs.map (·.2) = (V.trc.take k).map (·.2) ∧ Own w' w.heap.size st.1 1 (xs.map fun x => slV x.1) ∧ ∀ x ∈ xs, OwnB w' w.heap.size x.1 x.2 ∧ ∀ j, x.1.inB j → ¬ st.1.inB j) (fun st _ => V.trc.length - st.2.toNat) ⟨0, [], rfl, Nat.zero_le _, Fr.refl _ _, rfl, Own.nilSl _ _ _, fun x h => by cases h⟩ ?_
  rintro ⟨s, i⟩ w1 again ⟨k, xs, hi, hk, e1, ht, o1, hx1⟩ hag
  dsimp only at hi o1 hx1 ⊢
  subst hi
  have hxl : xs.length = k := by have := congrArg List.length ht; simp at this; omega
  refine cond_i (fun hlt => ?_) (fun hge => ?_)
  · have hlt : k < V.trc.length := by have : (k : Int) < (V.tr.len : Int) := of_decide_eq_true hlt
                                      omega
    have h1 := h.ext e1
    have hmem := List.getElem_mem hlt
    refine elem_i (l := .slc) (x := (V.trc[k]'hlt).1) h1.tr (by omega) (by omega) (by rw [Int.toNat_natCast, List.getElem?_map, List.getElem?_eq_getElem hlt]; rfl) ?_
    have htk : V.trc.take (k + 1) = V.trc.take k ++ [V.trc[k]'hlt] := List.take_succ_eq_append_getElem hlt
    generalize V.trc[k]'hlt = y at htk hmem
    obtain ⟨hb, hbl⟩ := h1.trc y hmem
    refine clone_s hb (by omega) fun r w2 e2 o2 => ?_
    have hsl : s.len = k := by have := o1.len; rw [List.length_map, hxl] at this; omega
    have hs1 := e1.size
    refine append1V_i (slV r) rfl rfl (o1.ext e2) (by omega) (Nat.le_trans hs1 e2.size) fun v w3 f3 o3 hin => ?_
    have e12 := e1.trans e2
    have e13 : Ext w w3 := Ext.own e12 f3 fun j hj => ((o1.ext e2).inB hj).1
    have hr2 : ∀ j, r.inB j → ¬ s.inB j := fun j hj hs => by have := (o2.inB hj).1; have := (o1.inB hs).2; omega
    refine hag _ w3 ⟨k + 1, xs ++ [(r, y.2)], ?_, by omega, e13, ?_, ?_, fun x hx => ?_⟩ ?_
    · dsimp only; rw [show (k : Int) + 1 = ((k + 1 : Nat) : Int) by omega]; exact wrap_nat (by omega)
    · rw [List.map_append, ht, htk, List.map_append]; rfl
    · dsimp only; rw [List.map_append]; exact o3
    · rcases List.mem_append.1 hx with hx | hx
      · obtain ⟨q1, q2⟩ := hx1 x hx
        refine ⟨(q1.ext e2).fr f3 fun a ha hs => q2 _ ⟨a, ha, rfl⟩ hs, fun j hj hv => ?_⟩
        rcases hin j hv with h | h
        · exact q2 j hj h
        · have := ((q1.ext e2).inB hj).2; omega
      · simp at hx; subst hx
        refine ⟨(o2.base hs1).fr f3 fun a ha hs => hr2 _ ⟨a, ha, rfl⟩ hs, fun j hj hv => ?_⟩
        rcases hin j hv with h | h
        · exact hr2 j hj h
        · have := (o2.inB hj).2; omega
    · dsimp only; rw [show (k : Int) + 1 = ((k + 1 : Nat) : Int) by omega, wrap_nat (by omega)]; omega
  · have hge : k = V.trc.length := by have : ¬ (k : Int) < (V.tr.len : Int) := of_decide_eq_false hge
                                      omega
    subst hge
    rw [List.take_length] at ht
    exact hK s w1 xs e1 ⟨o1.rd, fun x hx => (hx1 x hx).1.rd⟩ ht
set_option maxHeartbeats 400000 in
theorem vFetch_s {p : Pl} {K : Sl → Int → World → Prop} (h : VrAt w B X V) (hP : P1 w0 w B X.gd L b bad) (hx : XOk X) (h1 : p.2 ≤ X.x.h) (h2 : p.1 < X.x.c p.2)
    (hK : ∀ v w', Fr (fun k => k = X.gd) w w' → P1 w0 w' B X.gd L b bad → OwnB w' w.heap.size v (S.vfetch X.x X.d.off b bad p).1 → K v (S.vfetch X.x X.d.off b bad p).2 w') :
    callS Tryz.prog 72 #[.pointer (some (at_ X.gr 0)), .complex .f64 (fw p.1) (fw p.2)] [.one .slc, .one (.int .i64)] K w := by
  refine f72_ok (p1 := cz p.1 p.2) ?_
  unfold f72
  have o : X.x.Ok := hx.q.x
  have hr : X.x.right = true := hx.q.right
  have hh := S.Shp.h_le o
  have hcm := S.Shp.c_max o p.2
  have hb2 := o.b2
  have hoff := hx.off
  have h53 : (17179869184 : Nat) < 2 ^ 53 := by decide
  have l53 : (35 : Nat) < 2 ^ 53 := by decide
  have hgt : (fOrd (fw p.2) 0 == some .gt) = decide (1 ≤ p.2) := by
    rw [ord_W (isW_fw (by omega)) isW0]
    rcases Nat.eq_zero_or_pos p.2 with h | h
    · rw [h]; rfl
    · rw [Nat.compare_eq_gt.2 h, decide_eq_true (show 1 ≤ p.2 by omega)]; rfl
  dsimp only
  rw [hgt]
  unfold S.vfetch at hK
  have hxs : X.x.s = (X.x.sN : Int) := o.s
  have hxb : X.x.b = (X.x.bN : Int) := o.b
  refine cond_i (fun hl => ?_) (fun hl => ?_)
  · have hl1 : 1 ≤ p.2 := of_decide_eq_true hl
    rw [if_pos hl1] at hK
    refine nil_i rfl ?_
    refine ldV_i (n := 3) (ls := [.int .i64, .int .i64, .int .i64]) 13 h.var (by simp [vCells]) ?_
    show callS Tryz.prog 89 #[.agg #[.int .i64 X.x.s, .int .i64 X.x.b, .int .i64 X.x.d], .complex .f64 (fw p.1) (fw p.2)] _ _ _
    refine sOffset_s hr (by omega) (by omega) (fun hn => absurd ⟨hl1, h1, h2⟩ hn) fun _ _ _ w1 e1 => ?_
    have hd := Ext.drew w1
    have v2 := (h.var.ext e1)
    refine ⟨fun y => Ext w1 y, hd, ?_⟩
    refine nil_i rfl ?_
    refine ld1Q_i (l := .ptr) (o := 0) (some (at_ X.gd 0)) (fun y hy => v2.ext hy) rfl ?_
    refine nil_i rfl ?_
    refine ld1Q_i (l := .str) (o := 1) (str pn) (fun y hy => v2.ext hy) rfl ?_
    refine nil_i rfl ?_
    refine ld1Q_i (l := .int .i64) (o := 6) X.d.off (fun y hy => v2.ext hy) rfl ?_
    refine nil_i rfl ?_
    refine ld1Q_i (l := .int .i64) (o := 14) X.x.b (fun y hy => v2.ext hy) rfl ?_
    have hsum := S.Shp.sumA_le o p.2
    have hm := Nat.mul_le_mul (show p.1 + X.x.sumA p.2 ≤ 618475290624 by omega) hb2
    have hmn : (p.1 + X.x.sumA p.2) * X.x.bN ≤ 2533274790395904 := by omega
    rw [wrap_i64 (x := X.d.off + (((p.1 + X.x.sumA p.2) * X.x.bN : Nat) : Int)) (by omega) (by omega), hxb]
    have E := e1.trans hd
    refine pRead_s (hP.ext E) rfl ⟨by omega, by omega⟩ ⟨by omega, by omega⟩ fun v w' f d ov => ?_
    exact hK v w' (E.fr.trans f fun _ _ h => h) d (ov.base E.size)
  · have hl0 : ¬ 1 ≤ p.2 := of_decide_eq_false hl
    have hp0 : p.2 = 0 := by omega
    rw [if_neg hl0] at hK
    rw [hp0] at h2 hcm
    refine f2i_i (by kernel_rfl) (by kernel_rfl) (isW_fw (by omega)) (by omega) ?_
    refine nil_i rfl ?_
    refine ld1_i (l := .int .i64) (o := 14) X.x.b h.var rfl ?_
    have hd := Ext.drew w
    refine ⟨fun y => Ext w y, hd, ?_⟩
    refine nil_i rfl ?_
    refine ld1Q_i (l := .ptr) (o := 0) (some (at_ X.gd 0)) (fun y hy => h.var.ext hy) rfl ?_
    refine nil_i rfl ?_
    refine ld1Q_i (l := .str) (o := 1) (str pn) (fun y hy => h.var.ext hy) rfl ?_
    refine nil_i rfl ?_
    refine ld1Q_i (l := .int .i64) (o := 14) X.x.b (fun y hy => h.var.ext hy) rfl ?_
    refine nil_i rfl ?_
    refine ld1Q_i (l := .int .i64) (o := 13) X.x.s (fun y hy => h.var.ext hy) rfl ?_
    have hs2 := o.s2
    have hb1 := o.b1
    have hfrom : p.1 * X.x.bN < X.x.sN := by
      have h2' : p.1 < S.up X.x.sN X.x.bN := h2
      exact (S.up_iff (by omega) o.s1).1 h2'
    have e1 : IntKind.wrap .i64 ((p.1 : Int) * X.x.b) = ((p.1 * X.x.bN : Nat) : Int) := by rw [hxb, ← Int.natCast_mul]; exact wrap_nat (by omega)
    rw [e1, hxs, hxb]
    have e2 : IntKind.wrap .i64 ((X.x.sN : Int) - ((p.1 * X.x.bN : Nat) : Int)) = ((X.x.sN - p.1 * X.x.bN : Nat) : Int) := by rw [show (X.x.sN : Int) - ((p.1 * X.x.bN : Nat) : Int) = ((X.x.sN - p.1 * X.x.bN : Nat) : Int) by omega]; exact wrap_nat (by omega)
    rw [e2]
    have e3 : (if ((X.x.sN - p.1 * X.x.bN : Nat) : Int) < (X.x.bN : Int) then ((X.x.sN - p.1 * X.x.bN : Nat) : Int) else (X.x.bN : Int)) = ((min X.x.bN (X.x.sN - p.1 * X.x.bN) : Nat) : Int) := by split <;> omega
    rw [e3]
    refine pRead_s (hP.ext hd) rfl ⟨by omega, by omega⟩ ⟨by omega, by omega⟩ fun v w1 f d ov => ?_
    have f1 : Fr (fun k => k = X.gd) w w1 := hd.fr.trans f fun _ _ h => h
    refine cond_i (fun he => ?_) (fun he => ?_)
    · have he' : (S.pread b bad ((p.1 * X.x.bN : Nat) : Int) ((min X.x.bN (X.x.sN - p.1 * X.x.bN) : Nat) : Int)).2 ≠ 0 := by simpa using he
      rw [if_neg he'] at hK
      exact hK Sl.nil w1 f1 d (Own.nilSl _ _ _)
    · have he' : (S.pread b bad ((p.1 * X.x.bN : Nat) : Int) ((min X.x.bN (X.x.sN - p.1 * X.x.bN) : Nat) : Int)).2 = 0 := by simpa using he
      rw [if_pos he'] at hK
      have hlen := (S.pread_len he').1
      have h1 := h.rd hP f1
      have hvl := OwnB.len ov
      have hle : v.len ≤ X.x.bN := by omega
      refine nil_i rfl ?_
      refine ld1_i (l := .int .i64) (o := 14) X.x.b h1.var rfl ?_
      have e4 : IntKind.wrap .i64 (X.x.b - (v.len : Int)) = ((X.x.bN - v.len : Nat) : Int) := by rw [hxb, show (X.x.bN : Int) - (v.len : Int) = ((X.x.bN - v.len : Nat) : Int) by omega]; exact wrap_nat (by omega)
      rw [e4]
      have ov' := ov.base hd.size
      refine appendZB_i ov' (by omega) (by omega) f1.size fun v2 w2 f2 o2 hin => ?_
      have hlo : ∀ k, v.inB k → w.heap.size ≤ k := fun k hk => (ov'.inB hk).1
      have f3 : Fr (fun k => k = X.gd) w w2 := f1.trans f2 fun i hi hs => by have := hlo i hs; omega
      refine hK v2 w2 f3 (d.fr f2 (fun k hk hs => ?_) fun k hk => Nat.le_trans hP.e0.size (hlo k hk)) ?_
      · have hlt := hP.in hk
        have := hlo k hs
        omega
      · unfold S.fit
        rw [hvl, Int.toNat_natCast] at o2
        exact o2
theorem vHolds_s {n k : Nat} {p2 p3 : Sl} {bl above : List UInt8} {K : Bool → World → Prop} (h : VrAt w B X V) (ht : Tabs9 w) (hx : XOk X) (hn : n < X.x.c 0) (hk : k ≤ X.x.h) (hb : Bts w p2 bl) (ha : Bts w p3 above) (hbl : bl.length ≤ 1000000) (hal : above.length ≤ 1000000)
    (hK : ∀ w', Ext w w' → K (chk X.q.a X.q.salt (if k = X.x.h then X.q.dig else above) (if k = X.x.h then 0 else (offAt X.x n k : Int)) bl) w') :
    callS Tryz.prog 43 #[.pointer (some (at_ X.gr 0)), .complex .f64 (fw (n / X.x.aN ^ k)) (fw k), .slice p2.a p2.len p2.cap, .slice p3.a p3.len p3.cap] [.one .bool] K w := by
  refine f43_ok (p1 := cz (n / X.x.aN ^ k) k) ?_
  unfold f43
  have o : X.x.Ok := hx.q.x
  have hr : X.x.right = true := hx.q.right
  have hh := S.Shp.h_le o
  have hpin := path_in o hn k
  have hcm := S.Shp.c_max o k
  have h52 : (17179869184 : Nat) < 2 ^ 52 := by decide
  have hdl := hx.q.dig
  have hdd := o.dd
  have hdl' : X.d.dig.2.length = X.x.dN := hdl
  refine nil_i rfl ?_
  refine ldV_i (n := 3) (ls := [.int .i64, .int .i64, .int .i64]) 13 h.var (by simp [vCells]) ?_
  show callS Tryz.prog 48 #[.agg #[.int .i64 X.x.s, .int .i64 X.x.b, .int .i64 X.x.d], .complex .f64 (fw (n / X.x.aN ^ k)) (fw k)] _ _ _
  refine sAbove_s hr (by omega) (by omega) (fun hb => absurd ⟨hk, hpin⟩ hb) (fun ht' _ w1 e1 => ?_) fun hlt _ w1 e1 => ?_
  · refine cond_i (fun _ => ?_) (fun h => by cases h)
    rw [if_pos ht', if_pos ht'] at hK
    have hd := Ext.drew w1
    have h1 := h.ext e1
    have E := e1.trans hd
    refine ⟨fun y => Ext w1 y, hd, ?_⟩
    refine nil_i rfl ?_
    refine ld1Q_i (l := .int .i64) (o := 3) X.d.alg (fun y hy => h1.var.ext hy) rfl ?_
    refine nil_i rfl ?_
    refine ld1Q_i (l := .slc) (o := 9) X.d.salt.1 (fun y hy => h1.var.ext hy) rfl ?_
    refine nil_i rfl ?_
    refine ld1Q_i (l := .slc) (o := 10) X.d.dig.1 (fun y hy => h1.var.ext hy) rfl ?_
    exact check_s (ht.ext E) (h1.salt.ext hd) (h1.dig.ext hd) (hb.ext E) (by omega) hbl ⟨by omega, by omega⟩ fun w2 e2 => hK w2 (E.trans e2)
  · refine cond_i (fun h => by cases h) (fun _ => ?_)
    rw [if_neg (by omega), if_neg (by omega)] at hK
    have hd := Ext.drew w1
    have h1 := h.ext e1
    have E := e1.trans hd
    refine ⟨fun y => Ext w1 y, hd, ?_⟩
    refine nil_i rfl ?_
    refine ld1Q_i (l := .int .i64) (o := 3) X.d.alg (fun y hy => h1.var.ext hy) rfl ?_
    refine nil_i rfl ?_
    refine ld1Q_i (l := .slc) (o := 9) X.d.salt.1 (fun y hy => h1.var.ext hy) rfl ?_
    have ho := offAt_le hx.q n k
    have ho' : offAt X.x n k + X.x.dN ≤ X.x.bN := ho
    have hb2 := o.b2
    exact check_s (ht.ext E) (h1.salt.ext hd) (ha.ext E) (hb.ext E) (by omega) hbl ⟨by show (-9223372036854775808 : Int) ≤ (offAt X.x n k : Int); omega, by show (offAt X.x n k : Int) ≤ 9223372036854775807; omega⟩ fun w2 e2 => hK w2 (E.trans e2)
end
end Go.Proofs.YteopoodhclljjaaGreatDoor

/-! Ver17b -/
namespace Go.Proofs.YteopoodhclljjaaGreatDoor
open Go Go.Eng
open Go.S (Pl Kn Vq Vr klook vfirst vblk vput)
section
variable {w0 w w' : World} {B gd : Nat} {L : Lay} {b : List UInt8} {bad : Int → Bool} {X : VX} {V : VM}
/-- What the drive tells of a place. -/
def VX.F (X : VX) (b : List UInt8) (bad : Int → Bool) : Pl → List UInt8 × Int := S.vfetch X.x X.d.off b bad
theorem VX.F_len (hx : XOk X) (p : Pl) (h1 : p.2 ≤ X.q.x.h) (h2 : p.1 < X.q.x.c p.2) (h : (X.F b bad p).2 = 0) : (X.F b bad p).1.length = X.q.x.bN := S.vfetch_len hx.q.x p h1 h2 h
theorem known_look (hV : VrAt w B X V) (p : Pl) : ((kfind V.kn p).map (·.s)).elim (Value.slice none 0 0) slV = Lf.enc .slc (match kfind V.kn p with | some e => e.s | none => Sl.nil) := by
  cases kfind V.kn p <;> rfl
theorem known_nil (hV : VrAt w B X V) (p : Pl) : (!(match kfind V.kn p with | some e => e.s | none => Sl.nil).a.isNone) = (kfind V.kn p).isSome := by
  cases h : kfind V.kn p with
  | none => rfl
  | some e =>
    obtain ⟨h1, _, _, h2, _⟩ := hV.kn e (kfind_mem h).1
    have hl := Bts.len h1
    cases ha : e.s.a with
    | none => have := (Rd.nil h1 ha).1; omega
    | some a => simp [ha]
set_option maxHeartbeats 800000 in
theorem vClimb_s {n : Nat} {p1 : Sl} {K : Sl → Int → Int → World → Prop} (h : VrAt w B X V) (hP : P1 w0 w B X.gd L b bad) (hx : XOk X) (hv : VOk X.q (knP V.kn)) (hn : n < X.x.c 0) (hp : Rd w p1 1 (pathTo X.x n X.x.h)) (hpl : p1.len = X.x.h + 1) (hpi : ∀ k, p1.inB k → k ≠ X.gd ∧ k < w.heap.size)
    (hE : ∀ k, (List.range (vfirst X.q (knP V.kn) n)).find? (fun k => decide ((X.F b bad (X.x.pl n k)).2 ≠ 0)) = some k → ∀ w', Fr (fun k => k = X.gd) w w' → P1 w0 w' B X.gd L b bad → K Sl.nil 0 (X.F b bad (X.x.pl n k)).2 w')
    (hO : (List.range (vfirst X.q (knP V.kn) n)).find? (fun k => decide ((X.F b bad (X.x.pl n k)).2 ≠ 0)) = none → ∀ (v : Sl) (xs : List (Sl × List UInt8)) w', Fr (fun k => k = X.gd) w w' → P1 w0 w' B X.gd L b bad → Own w' w.heap.size v 1 (xs.map fun x => slV x.1) →
      xs.map (·.2) = (List.range (X.x.h + 1)).map (vblk (X.F b bad) X.q (knP V.kn) n) → (∀ x ∈ xs, Bts w' x.1 x.2 ∧ ∀ j, x.1.inB j → (V.imm X j ∨ w.heap.size ≤ j) ∧ j < w'.heap.size ∧ ¬ v.inB j) → K v (vfirst X.q (knP V.kn) n : Int) 0 w') :
    callS Tryz.prog 42 #[.pointer (some (at_ X.gr 0)), .slice p1.a p1.len p1.cap] [.one .slc, .one (.int .i64), .one (.int .i64)] K w := by
  refine f42_ok ?_
  unfold f42
  have o : X.x.Ok := hx.q.x
  have hh := S.Shp.h_le o
  have hfl : vfirst X.q (knP V.kn) n ≤ X.x.h + 1 := S.vfirst_le
  have hflo : ∀ k, k < vfirst X.q (knP V.kn) n → kfind V.kn (X.x.pl n k) = none := fun k hk => by
    have : klook (knP V.kn) (X.x.pl n k) = none := S.vfirst_lt hk
    rw [kfind_pure] at this
    simpa using this
  have hfhi : ∀ k, vfirst X.q (knP V.kn) n ≤ k → k ≤ X.x.h → ∃ e, kfind V.kn (X.x.pl n k) = some e ∧ e.b = vblk (X.F b bad) X.q (knP V.kn) n k := fun k h1 h2 => by
    have : klook (knP V.kn) (X.x.pl n k) = some (vblk (X.F b bad) X.q (knP V.kn) n k) := vblk_hi hv h1 h2
    rw [kfind_pure] at this
    obtain ⟨e, h3, h4⟩ := Option.map_eq_some_iff.1 this
    exact ⟨e, h3, h4⟩
  have hblo : ∀ k, k < vfirst X.q (knP V.kn) n → vblk (X.F b bad) X.q (knP V.kn) n k = (X.F b bad (X.x.pl n k)).1 := fun k hk => vblk_lo hk
  generalize hBB : vblk (X.F b bad) X.q (knP V.kn) n = BB at hfhi hblo hO
  generalize hf : vfirst X.q (knP V.kn) n = f at hfl hflo hfhi hblo hE hO
  have h53 : (17179869184 : Nat) < 2 ^ 53 := by decide
  have l53 : (35 : Nat) < 2 ^ 53 := by decide
  have hpin : ∀ k, n / X.x.aN ^ k < 2 ^ 53 := fun k => by
    have h1 := path_in o hn k
    have h2 := S.Shp.c_max o k
    omega
  have hfr : ∀ {w1 : World}, Fr (fun k => k = X.gd) w w1 → Rd w1 p1 1 (pathTo X.x n X.x.h) := fun hf => hp.fr hf fun a ha e => (hpi _ ⟨a, ha, rfl⟩).1 e
  have hgd := hP.gdlt
  have himm : ∀ k, V.imm X k → k < w.heap.size := fun k hk => (h.sep k hk).2.2
  refine join_i (fun (s : Sl) w1 => ∃ xs : List (Sl × List UInt8), Fr (fun k => k = X.gd) w w1 ∧ P1 w0 w1 B X.gd L b bad ∧ xs.map (·.2) = (List.range f).map BB ∧ Own w1 w.heap.size s 1 (xs.map fun x => slV x.1) ∧ (∀ x ∈ xs, OwnB w1 w.heap.size x.1 x.2 ∧ ∀ j, x.1.inB j → ¬ s.inB j) ∧ ∀ j, j < f → (X.F b bad (X.x.pl n j)).2 = 0) ?_ fun J hJ => ?_
  · rintro s w1 ⟨xs, f1, P, ht, o1, hx1, hz⟩
    have hno : (List.range f).find? (fun k => decide ((X.F b bad (X.x.pl n k)).2 ≠ 0)) = none := List.find?_eq_none.2 fun k hk => by
      rw [hz k (List.mem_range.1 hk)]; simp
    have hO := hO hno
    have hxl : xs.length = f := by have := congrArg List.length ht; simpa using this
    have hsl : s.len = f := by have := o1.len; rw [List.length_map, hxl] at this; omega
    refine slLo_i (by omega) (by omega) ?_
    rw [Int.toNat_natCast]
    have hcut := Rd.cut hp (l := s.len) (hi := p1.len) (by omega) (Nat.le_refl _)
    rw [Nat.mul_one, Nat.mul_one, hsl] at hcut
    have hcl : (p1.cut 1 s.len p1.len).len = X.x.h + 1 - f := by show p1.len - s.len = _; omega
    have hcutI : ∀ k, (p1.cut 1 f p1.len).inB k → k ≠ X.gd := fun k hk => (hpi k (Sl.cut_inB hk)).1
    refine loop_i (fun (st : Sl × Int) w2 => ∃ (k : Nat) (xs : List (Sl × List UInt8)), st.2 = k ∧ k ≤ X.x.h + 1 - f ∧ Fr (fun k => k = X.gd) w w2 ∧ P1 w0 w2 B X.gd L b bad ∧ xs.map (·.2) = (List.range (f + k)).map BB ∧ Own w2 w.heap.size st.1 1 (xs.map fun x => slV x.1) ∧
      ∀ x ∈ xs, Bts w2 x.1 x.2 ∧ ∀ j, x.1.inB j → (V.imm X j ∨ w.heap.size ≤ j) ∧ j < w2.heap.size ∧ ¬ st.1.inB j) (fun st _ => X.x.h + 1 - f - st.2.toNat) ⟨0, xs, rfl, Nat.zero_le _, f1, P, ht, o1, fun x hx => ⟨(hx1 x hx).1.rd, fun j hj => ⟨.inr ((hx1 x hx).1.inB hj).1, ((hx1 x hx).1.inB hj).2, (hx1 x hx).2 j hj⟩⟩⟩ ?_
    rintro ⟨s2, i⟩ w2 again ⟨k, ys, hi, hk, f2, P2, ht2, o2, hx2⟩ hag
    dsimp only at hi o2 hx2 ⊢
    subst hi
    have hyl : ys.length = f + k := by have := congrArg List.length ht2; simpa using this
    have hs2 : s2.len = f + k := by have := o2.len; rw [List.length_map, hyl] at this; omega
    refine cond_i (fun hlt => ?_) (fun hge => ?_)
    · have hlt : k < X.x.h + 1 - f := by have : (k : Int) < ((p1.cut 1 s.len p1.len).len : Int) := of_decide_eq_true hlt
                                         omega
      have h2 := h.rd hP f2
      have hget : (((pathTo X.x n X.x.h).drop f).take (p1.len - f))[k]? = some (vC (n / X.x.aN ^ (f + k)) (f + k)) := by
        rw [List.getElem?_take, if_pos (by omega), List.getElem?_drop, pathTo_get (by omega)]
      rw [hsl]
      refine elem_i (l := .cpx) (x := cz (n / X.x.aN ^ (f + k)) (f + k)) (hcut.fr f2 fun a ha e => hcutI _ ⟨a, ha, rfl⟩ e) (by omega) (by rw [← hsl, hcl]; omega) (by rw [Int.toNat_natCast]; exact hget) ?_
      obtain ⟨e, he1, he2⟩ := hfhi (f + k) (by omega) (by omega)
      refine nil_i rfl ?_
      refine ld1_i (l := .mp) (o := 17) (some V.m) h2.var rfl ?_
      have hlk := known_look h2 (X.x.pl n (f + k))
      rw [he1] at hlk
      refine lookC_i (k := ⟨n / X.x.aN ^ (f + k), f + k, hpin _, by omega⟩) (lf := .slc) e.s h2.map rfl (by show Option.elim (Option.map _ (kfind V.kn (X.x.pl n (f + k)))) _ _ = _; rw [he1]; rfl) ?_
      have hmem := (kfind_mem he1).1
      refine append1V_i (slV e.s) rfl rfl o2 (by omega) f2.size fun v w3 f3 o3 hin => ?_
      have f3' : Fr (fun k => k = X.gd) w w3 := f2.trans f3 fun i hi hs => by have := (o2.inB hs).1; omega
      have P3 : P1 w0 w3 B X.gd L b bad := P2.fr f3 (fun i hi hs => by have := hP.in hi; have := (o2.inB hs).1; omega) fun i hs => Nat.le_trans hP.e0.size (o2.inB hs).1
      have h3 := h.rd hP f3'
      refine hag _ w3 ⟨k + 1, ys ++ [(e.s, e.b)], ?_, by omega, f3', P3, ?_, ?_, fun x hx => ?_⟩ ?_
      · dsimp only; rw [show (k : Int) + 1 = ((k + 1 : Nat) : Int) by omega]; exact wrap_nat (by omega)
      · rw [List.map_append, ht2, ← Nat.add_assoc, List.range_succ, List.map_append, he2]; rfl
      · dsimp only; rw [List.map_append]; exact o3
      · rcases List.mem_append.1 hx with hx | hx
        · obtain ⟨q1, q2⟩ := hx2 x hx
          refine ⟨q1.fr f3 fun a ha hs => (q2 _ ⟨a, ha, rfl⟩).2.2 hs, fun j hj => ?_⟩
          obtain ⟨r1, r2, r3⟩ := q2 j hj
          refine ⟨r1, Nat.lt_of_lt_of_le r2 f3.size, fun hv => ?_⟩
          rcases hin j hv with h | h
          · exact r3 h
          · omega
        · simp at hx; subst hx
          refine ⟨(h3.kn e hmem).1, fun j hj => ?_⟩
          have hij : V.imm X j := .inr (.inr (.inl ⟨e, hmem, hj⟩))
          have hjl := himm j hij
          refine ⟨.inl hij, Nat.lt_of_lt_of_le hjl f3'.size, fun hv => ?_⟩
          have := (o3.inB hv).1
          omega
      · dsimp only; rw [show (k : Int) + 1 = ((k + 1 : Nat) : Int) by omega, wrap_nat (by omega)]; omega
    · have hge : k = X.x.h + 1 - f := by have : ¬ (k : Int) < ((p1.cut 1 s.len p1.len).len : Int) := of_decide_eq_false hge
                                         omega
      subst hge
      rw [hsl]
      rw [show f + (X.x.h + 1 - f) = X.x.h + 1 by omega] at ht2
      exact hO s2 ys w2 f2 P2 o2 ht2 hx2
  · refine loop_i (fun (st : Sl × Int) w1 => ∃ (k : Nat) (xs : List (Sl × List UInt8)), st.2 = k ∧ k ≤ f ∧ Fr (fun k => k = X.gd) w w1 ∧ P1 w0 w1 B X.gd L b bad ∧ xs.map (·.2) = (List.range k).map BB ∧ Own w1 w.heap.size st.1 1 (xs.map fun x => slV x.1) ∧ (∀ x ∈ xs, OwnB w1 w.heap.size x.1 x.2 ∧ ∀ j, x.1.inB j → ¬ st.1.inB j) ∧ ∀ j, j < k → (X.F b bad (X.x.pl n j)).2 = 0) (fun st _ => X.x.h + 1 - st.2.toNat)
      ⟨0, [], rfl, Nat.zero_le _, Fr.refl _ _, hP, rfl, Own.nilSl _ _ _, (fun x h => by cases h), fun j hj => by omega⟩ ?_
    rintro ⟨s, i⟩ w1 again ⟨k, xs, hi, hk, f1, P, ht, o1, hx1, hz⟩ hag
    dsimp only at hi o1 hx1 ⊢
    subst hi
    have hxl : xs.length = k := by have := congrArg List.length ht; simpa using this
    have hsl : s.len = k := by have := o1.len; rw [List.length_map, hxl] at this; omega
    rw [hpl]
    refine cond_i (fun hlt => ?_) (fun hge => ?_)
    · have hlt : k < X.x.h + 1 := by have : (k : Int) < ((X.x.h + 1 : Nat) : Int) := of_decide_eq_true hlt
                                     omega
      have h1 := h.rd hP f1
      rw [← hpl]
      refine elem_i (l := .cpx) (x := cz (n / X.x.aN ^ k) k) (hfr f1) (by omega) (by omega) (by rw [Int.toNat_natCast]; exact pathTo_get (by omega)) ?_
      refine nil_i rfl ?_
      refine ld1_i (l := .mp) (o := 17) (some V.m) h1.var rfl ?_
      refine lookC_i (k := ⟨n / X.x.aN ^ k, k, hpin _, by omega⟩) (lf := .slc) _ h1.map rfl (known_look h1 (X.x.pl n k)) ?_
      refine neNilV_i ?_
      rw [known_nil h1]
      refine cond_i (fun hs => ?_) (fun hs => ?_)
      · have hkf : k = f := by
          apply Classical.byContradiction
          intro hne
          rw [hflo k (by omega)] at hs; cases hs
        subst hkf
        exact hJ _ _ ⟨xs, f1, P, ht, o1, hx1, hz⟩
      · have hkf : k < f := by
          apply Classical.byContradiction
          intro hne
          obtain ⟨e, he, _⟩ := hfhi k (by omega) (by omega)
          rw [he] at hs; cases hs
        refine vFetch_s (p := X.x.pl n k) h1 P hx (by show k ≤ X.x.h; omega) (path_in o hn k) fun v w2 f2 P2 o2 => ?_
        have f12 : Fr (fun k => k = X.gd) w w2 := f1.trans' f2
        have hs1 := f1.size
        refine cond_i (fun he => ?_) (fun he => ?_)
        · have he' : (X.F b bad (X.x.pl n k)).2 ≠ 0 := bne_iff_ne.1 he
          refine hE k ?_ w2 f12 P2
          rw [List.find?_range_eq_some]
          refine ⟨by simpa using he', List.mem_range.2 hkf, fun j hj => by rw [hz j hj]; simp⟩
        · have he' : (X.F b bad (X.x.pl n k)).2 = 0 := bne_eq_false_iff_eq.1 he
          have hvs : ∀ j, v.inB j → ¬ s.inB j := fun j hj hs => by have := (o2.inB hj).1; have := (o1.inB hs).2; omega
          have ogd : ∀ j, s.inB j → j ≠ X.gd := fun j hj e => by have := (o1.inB hj).1; have := hP.in (.inl e : L.inD X.gd j); omega
          have o1' := o1.fr f2 fun a ha e => ogd _ ⟨a, ha, rfl⟩ e
          refine append1V_i (slV v) rfl rfl o1' (by omega) (Nat.le_trans hs1 f2.size) fun v3 w3 f3 o3 hin => ?_
          have f3' : Fr (fun k => k = X.gd) w w3 := f12.trans f3 fun i hi hs => by have := (o1.inB hs).1; omega
          have P3 : P1 w0 w3 B X.gd L b bad := P2.fr f3 (fun i hi hs => by have := hP.in hi; have := (o1.inB hs).1; omega) fun i hs => Nat.le_trans hP.e0.size (o1.inB hs).1
          refine hag _ w3 ⟨k + 1, xs ++ [(v, (X.F b bad (X.x.pl n k)).1)], ?_, by omega, f3', P3, ?_, ?_, fun x hx => ?_, fun j hj => ?_⟩ ?_
          · dsimp only; rw [show (k : Int) + 1 = ((k + 1 : Nat) : Int) by omega]; exact wrap_nat (by omega)
          · rw [List.map_append, ht, List.range_succ, List.map_append, List.map_cons, List.map_cons, hblo k hkf]; rfl
          · dsimp only; rw [List.map_append]; exact o3
          · rcases List.mem_append.1 hx with hx | hx
            · obtain ⟨q1, q2⟩ := hx1 x hx
              have q1' : OwnB w2 w.heap.size x.1 x.2 := q1.fr f2 fun a ha e => by
                have := (q1.lt ha).1
                have := hP.in (.inl e : L.inD X.gd a.block)
                omega
              refine ⟨q1'.fr f3 fun a ha hs => q2 _ ⟨a, ha, rfl⟩ hs, fun j hj hv => ?_⟩
              rcases hin j hv with h | h
              · exact q2 j hj h
              · have := (q1'.inB hj).2; omega
            · simp at hx; subst hx
              refine ⟨(o2.base hs1).fr f3 fun a ha hs => hvs _ ⟨a, ha, rfl⟩ hs, fun j hj hv => ?_⟩
              rcases hin j hv with h | h
              · exact hvs j hj h
              · have := (o2.inB hj).2; omega
          · rcases Nat.lt_or_ge j k with h | h
            · exact hz j h
            · rw [show j = k by omega]; exact he'
          · dsimp only; rw [show (k : Int) + 1 = ((k + 1 : Nat) : Int) by omega, wrap_nat (by omega)]; omega
    · have hge : k = X.x.h + 1 := by have : ¬ (k : Int) < ((X.x.h + 1 : Nat) : Int) := of_decide_eq_false hge
                                     omega
      have hkf : k = f := by omega
      subst hkf
      exact hJ _ _ ⟨xs, f1, P, ht, o1, hx1, hz⟩
end
end Go.Proofs.YteopoodhclljjaaGreatDoor

/-! Ver17c -/
namespace Go.Proofs.YteopoodhclljjaaGreatDoor
open Go Go.Eng
open Go.S (Pl Kn Vq Vr klook vfirst vblk vput)
section
variable {w0 w w' : World} {B gd : Nat} {L : Lay} {b : List UInt8} {bad : Int → Bool} {X : VX} {V : VM}
/-- A place, and its block, put to what is remembered. -/
theorem VrAt.put {p : Pl} {s r : Sl} {bs : List UInt8} {q1 : p.1 < 2 ^ 53} {q2 : p.2 < 2 ^ 53} (h : VrAt w B X V) (F : Fr (V.mut X) w w') (v : Var w' X.gr ((vCells X V).set 18 (slV r)))
    (m : MapAt w' kCx slV V.m (fun k => if k = ⟨p.1, p.2, q1, q2⟩ then some s else (kfind V.kn (k.i, k.l)).map (·.s))) (o : Own w' B r 1 ((V.kn.map fun e => vC e.p.1 e.p.2) ++ [vC p.1 p.2])) (hr : ∀ j, r.inB j → V.ord.inB j ∨ w.heap.size ≤ j) (hp : kfind V.kn p = none)
    (hs : Bts w s bs) (hl : 1 ≤ bs.length ∧ bs.length ≤ 4096) (hsI : ∀ j, s.inB j → ¬ V.mut X j ∧ B ≤ j ∧ j < w.heap.size) : VrAt w' B X { V with ord := r, kn := V.kn ++ [⟨p, s, bs⟩] } := by
  have hi : ∀ {t : Sl}, (∀ k, t.inB k → V.imm X k) → ∀ a, t.a = some a → ¬ V.mut X a.block := fun h1 a ha => (h.sep _ (h1 _ ⟨a, ha, rfl⟩)).1
  have hmi : ∀ k, VM.imm { V with ord := r, kn := V.kn ++ [⟨p, s, bs⟩] } X k → V.imm X k ∨ s.inB k := fun k hk => by
    rcases hk with hk | hk | ⟨e, he, hk⟩ | hk | hk
    · exact .inl (.inl hk)
    · exact .inl (.inr (.inl hk))
    · rcases List.mem_append.1 he with he | he
      · exact .inl (.inr (.inr (.inl ⟨e, he, hk⟩)))
      · simp at he; subst he; exact .inr hk
    · exact .inl (.inr (.inr (.inr (.inl hk))))
    · exact .inl (.inr (.inr (.inr (.inr hk))))
  have hgr := h.lo X.gr (.inl rfl)
  have hm := h.lo V.m (.inr (.inl rfl))
  refine ⟨v, m.congr fun k => ?_, by rw [List.map_append]; exact o, fun e he => ?_, h.tr.fr F (hi fun k hk => .inl hk), fun x hx => ⟨(h.trc x hx).1.fr F (hi fun k hk => .inr (.inl ⟨x, hx, hk⟩)), (h.trc x hx).2⟩, h.salt.fr F (hi fun k hk => .inr (.inr (.inr (.inl hk)))), h.dig.fr F (hi fun k hk => .inr (.inr (.inr (.inr hk)))), fun k hk => ?_, fun k hk => ?_, h.ne.1, fun hk => ?_, fun hk => ?_⟩
  · rw [kfind_snoc (e := ⟨p, s, bs⟩) hp]
    by_cases hk : k = ⟨p.1, p.2, q1, q2⟩
    · subst hk; simp
    · have : ¬ (k.i, k.l) = p := fun e => hk (CK.ext' (congrArg Prod.fst e) (congrArg Prod.snd e))
      rw [if_neg hk]
      simp only []
      rw [if_neg this]
  · rcases List.mem_append.1 he with he | he
    · exact ⟨(h.kn e he).1.fr F (hi fun k hk => .inr (.inr (.inl ⟨e, he, hk⟩))), (h.kn e he).2⟩
    · simp at he; subst he
      exact ⟨hs.fr F fun a ha => (hsI _ ⟨a, ha, rfl⟩).1, q1, q2, hl⟩
  · have h1 : ¬ V.mut X k ∧ B ≤ k ∧ k < w.heap.size := by
      rcases hmi k hk with h2 | h2
      · exact h.sep k h2
      · exact hsI k h2
    refine ⟨fun hm => ?_, h1.2.1, Nat.lt_of_lt_of_le h1.2.2 F.size⟩
    rcases hm with hm | hm | hm
    · exact h1.1 (.inl hm)
    · exact h1.1 (.inr (.inl hm))
    · rcases hr k hm with h2 | h2
      · exact h1.1 (.inr (.inr h2))
      · omega
  · rcases hk with hk | hk | hk
    · have := h.lo k (.inl hk)
      exact ⟨this.1, Nat.lt_of_lt_of_le this.2 F.size⟩
    · have := h.lo k (.inr (.inl hk))
      exact ⟨this.1, Nat.lt_of_lt_of_le this.2 F.size⟩
    · exact o.inB hk
  · rcases hr _ hk with h2 | h2
    · exact h.ne.2.1 h2
    · omega
  · rcases hr _ hk with h2 | h2
    · exact h.ne.2.2 h2
    · have hk' : r.inB V.m := hk
      have h2' : w.heap.size ≤ V.m := h2
      omega
theorem own_map {α : Type} {w : World} {B : Nat} {s : Sl} {l : List α} {f : α → Value} (h : Own w B s 1 (l.map f)) : s.len = l.length := by have := h.len; rw [List.length_map] at this; omega
set_option maxHeartbeats 1600000 in
theorem vRead_s {i : Int} {K : Sl → Int → World → Prop} (h : VrAt w B X V) (hP : P1 w0 w B X.gd L b bad) (hx : XOk X) (ht : Tabs9 w0) (hv : VOk X.q (knP V.kn)) (hi : S.I64 i)
    (hK : ∀ (v : Sl) w' V', Fr (fun k => k = X.gd ∨ V.mut X k) w w' → P1 w0 w' B X.gd L b bad → VrAt w' B X V' → V'.pure = (vread (X.F b bad) X.q V.pure i).2.2 → (∀ k, V'.mut X k ∨ V'.imm X k → V.mut X k ∨ V.imm X k ∨ w.heap.size ≤ k) →
      OwnB w' w.heap.size v (vread (X.F b bad) X.q V.pure i).1 → (∀ k, v.inB k → ¬ (V'.mut X k ∨ V'.imm X k)) → K v (vread (X.F b bad) X.q V.pure i).2.1 w') :
    callS Tryz.prog 16 #[.pointer (some (at_ X.gr 0)), .int .i64 i] [.one .slc, .one (.int .i64)] K w := by
  refine f16_ok ?_
  unfold f16
  have o : X.x.Ok := hx.q.x
  have hr : X.x.right = true := hx.q.right
  have hh := S.Shp.h_le o
  have hb1 := o.b1
  have hb2 := o.b2
  have hgd := hP.gdlt
  have hgr := h.lo X.gr (.inl rfl)
  have hBw : B ≤ w.heap.size := by omega
  have hmB : ∀ k, V.mut X k → w0.heap.size ≤ k ∧ B ≤ k := fun k hk => by have := (h.lo k hk).1; omega
  have hDm : ∀ k, L.inD X.gd k → ∀ {U : VM} {u : World}, VrAt u B X U → ¬ U.mut X k := fun k hk U u hU hm => by have := (hU.lo k hm).1; have := (hP.lo k hk).2; omega
  -- the trace is nothing
  refine nil_i rfl ?_
  refine st1_i (o := 20) h.var (by simp [vCells]) rfl fun w1 f1 v1 => ?_
  have f1 : Fr (fun k => k = X.gr) w w1 := f1
  obtain ⟨V0, hV0⟩ : ∃ V0 : VM, V0 = { V with tr := Sl.nil, trc := [] } := ⟨_, rfl⟩
  have h0 : VrAt w1 B X V0 := by
    subst hV0
    exact h.upVar f1 v1 rfl rfl rfl (Rd.nilSl _ _) (fun x hx => by cases hx) fun k hk => by
      rcases hk with ⟨a, ha, _⟩ | ⟨x, hx, _⟩
      · cases ha
      · cases hx
  have hm0 : ∀ k, V0.mut X k ↔ V.mut X k := fun k => by subst hV0; exact Iff.rfl
  have hi0 : ∀ k, V0.imm X k → V.imm X k := fun k hk => by
    subst hV0
    rcases hk with ⟨a, ha, _⟩ | ⟨x, hx, _⟩ | hk
    · cases ha
    · cases hx
    · exact .inr (.inr hk)
  have hkn0 : V0.kn = V.kn := by rw [hV0]
  have hbr0 : V0.broken = V.broken := by rw [hV0]
  have hp0 : V0.pure = ⟨V.broken, knP V.kn, []⟩ := by rw [hV0]; rfl
  have F1 : Fr (fun k => k = X.gd ∨ V.mut X k) w w1 := f1.mono fun k _ hk => .inr (.inl hk)
  have P1' : P1 w0 w1 B X.gd L b bad := hP.fr f1 (fun k hk e => by have := (hP.lo k hk).2; omega) fun k hk => by omega
  have hall0 : ∀ k, V0.mut X k ∨ V0.imm X k → V.mut X k ∨ V.imm X k ∨ w.heap.size ≤ k := fun k hk => hk.elim (fun hk => .inl ((hm0 k).1 hk)) fun hk => .inr (.inl (hi0 k hk))
  have hnilB : ∀ {Q : Nat → Prop} (k : Nat), Sl.nil.inB k → ¬ Q k := fun k hk => by obtain ⟨a, ha, _⟩ := hk; cases ha
  have hVp : V.pure = ⟨V.broken, knP V.kn, V.trc.map (·.2)⟩ := rfl
  rw [hVp] at hK
  unfold vread at hK
  simp only at hK
  rw [show X.q.x = X.x from rfl] at hK
  refine nil_i rfl ?_
  refine ld1_i (l := .bool) (o := 19) V0.broken h0.var rfl ?_
  rw [hbr0]
  refine cond_i (fun hb => ?_) (fun hb => ?_)
  · rw [if_pos hb] at hK
    refine hK Sl.nil w1 V0 F1 P1' h0 ?_ hall0 (Own.nilSl _ _ _) (hnilB (Q := fun k => V0.mut X k ∨ V0.imm X k))
    rw [hp0, hb]
  rw [if_neg (by rw [hb]; simp)] at hK
  have hp0 : V0.pure = ⟨false, knP V.kn, []⟩ := by rw [hp0, hb]
  refine nil_i rfl ?_
  refine ldV_i (n := 3) (ls := [.int .i64, .int .i64, .int .i64]) 13 h0.var (by simp [vCells]) ?_
  show callS Tryz.prog 41 #[.agg #[.int .i64 X.x.s, .int .i64 X.x.b, .int .i64 X.x.d], .int .i64 i] _ _ _
  refine sPathO_s hi (fun h => by rw [hr] at h; cases h) (fun _ hno w2 e2 => ?_) fun _ n hin hn pv w2 e2 rp hpl hpi => ?_
  · refine cond_i (fun _ => ?_) (fun h => by cases h)
    rw [if_pos hno] at hK
    exact hK Sl.nil w2 V0 (F1.then e2) (P1'.ext e2) (h0.ext e2) hp0 hall0 (Own.nilSl _ _ _) (hnilB (Q := fun k => V0.mut X k ∨ V0.imm X k))
  subst hin
  have hin' : ¬ ¬ (0 ≤ (n : Int) ∧ (n : Int) < X.x.c 0) := fun hc => hc ⟨by omega, by omega⟩
  rw [if_neg hin', Int.toNat_natCast] at hK
  refine cond_i (fun h => by cases h) (fun _ => ?_)
  have h2 := h0.ext e2
  have P2 := P1'.ext e2
  have F2 := F1.then e2
  have hs1 := f1.size
  have hgw : X.gd < w.heap.size := hP.in (.inl rfl)
  have hv0 : VOk X.q (knP V0.kn) := by rw [hkn0]; exact hv
  refine vClimb_s h2 P2 hx hv0 hn rp hpl (fun k hk => by have := hpi k hk; omega) (fun k hk w3 f3 P3 => ?_) fun hno v xs w3 f3 P3 o3 ht3 hx3 => ?_
  · rw [hkn0] at hk
    rw [hk] at hK
    have hne : (X.F b bad (X.x.pl n k)).2 ≠ 0 := by have := List.find?_some hk; simpa using this
    refine cond_i (fun _ => ?_) (fun h => absurd (bne_eq_false_iff_eq.1 h) hne)
    exact hK Sl.nil w3 V0 (F2.trans f3 fun k _ hk => .inl hk) P3 (h2.rd P2 f3) hp0 hall0 (Own.nilSl _ _ _) (hnilB (Q := fun k => V0.mut X k ∨ V0.imm X k))
  rw [hkn0] at hno ht3 ⊢
  rw [hno] at hK
  simp only at hK
  refine cond_i (fun h => by cases h) (fun _ => ?_)
  have h3 := h2.rd P2 f3
  have F3 : Fr (fun k => k = X.gd ∨ V.mut X k) w w3 := F2.trans f3 fun k _ hk => .inl hk
  have hfl : vfirst X.q (knP V.kn) n ≤ X.x.h + 1 := S.vfirst_le
  have hf1 : 1 ≤ vfirst X.q (knP V.kn) n := by
    rcases Nat.eq_zero_or_pos (vfirst X.q (knP V.kn) n) with h0 | h0
    · obtain ⟨bb, hbb⟩ := S.vfirst_at (q := X.q) (kn := knP V.kn) (n := n) (by omega)
      have := (hv.lev _ (S.klook_mem hbb)).1
      rw [h0] at this
      exact absurd this (by show ¬ 1 ≤ 0; omega)
    · exact h0
  have hflo : ∀ k, k < vfirst X.q (knP V.kn) n → kfind V.kn (X.x.pl n k) = none := fun k hk => by
    have : klook (knP V.kn) (X.x.pl n k) = none := S.vfirst_lt hk
    rw [kfind_pure] at this
    simpa using this
  have hFz : ∀ k, k < vfirst X.q (knP V.kn) n → (X.F b bad (X.x.pl n k)).2 = 0 := fun k hk => by
    have := List.find?_eq_none.1 hno k (List.mem_range.2 hk)
    exact Classical.byContradiction fun hc => this (by simpa using hc)
  have hblen : ∀ k, k ≤ X.x.h → (vblk (X.F b bad) X.q (knP V.kn) n k).length = X.x.bN := fun k hk => by
    by_cases hlt : k < vfirst X.q (knP V.kn) n
    · rw [vblk_lo hlt]; exact VX.F_len hx _ (by show k ≤ X.x.h; exact hk) (path_in o hn k) (hFz k hlt)
    · exact (hv.lev (X.q.x.pl n k, vblk (X.F b bad) X.q (knP V.kn) n k) (S.klook_mem (vblk_hi hv (by omega) hk))).2.2.2
  have hvh : ∀ k, vhold X.q n (vblk (X.F b bad) X.q (knP V.kn) n) k = chk X.q.a X.q.salt (if k = X.x.h then X.q.dig else vblk (X.F b bad) X.q (knP V.kn) n (k + 1)) (if k = X.x.h then 0 else (offAt X.x n k : Int)) (vblk (X.F b bad) X.q (knP V.kn) n k) := fun k => rfl
  generalize hBB : vblk (X.F b bad) X.q (knP V.kn) n = BB at hK ht3 hblen hvh
  generalize hff : vfirst X.q (knP V.kn) n = f at hK hfl hf1 hflo hFz
  have hxl : xs.length = X.x.h + 1 := by have := congrArg List.length ht3; simpa using this
  have hvl : v.len = X.x.h + 1 := by have := own_map o3; omega
  have hget : ∀ k (hk : k < xs.length), (xs[k]'hk).2 = BB k := fun k hk => by
    have := congrArg (·[k]?) ht3
    simp only [List.getElem?_map, List.getElem?_eq_getElem hk, Option.map_some, List.getElem?_range (show k < X.x.h + 1 by omega)] at this
    exact Option.some.inj this
  have hxget : ∀ k (hk : k < xs.length), (xs.map fun x => slV x.1)[k]? = some (Lf.enc .slc (xs[k]'hk).1) := fun k hk => by simp [hk]; rfl
  have hs3 : w1.heap.size ≤ w3.heap.size := by have := e2.size; have := f3.size; omega
  have rp3 : Rd w3 pv 1 (pathTo X.x n X.x.h) := rp.fr f3 fun a ha e => by have := hpi _ ⟨a, ha, rfl⟩; omega
  have hx3s : ∀ x ∈ xs, ∀ j, x.1.inB j → ¬ V0.mut X j ∧ B ≤ j ∧ j < w3.heap.size := fun x hx j hj => by
    obtain ⟨h4, h5, _⟩ := (hx3 x hx).2 j hj
    rcases h4 with h4 | h4
    · have := h2.sep j h4; exact ⟨this.1, this.2.1, h5⟩
    · refine ⟨fun hm => ?_, ?_, h5⟩
      · have := (h2.lo j hm).2; omega
      · have := (h2.lo X.gr (.inl rfl)).2; have := (h2.lo X.gr (.inl rfl)).1; omega
  have hw1 : IntKind.wrap .i64 ((f : Int) - 1) = ((f - 1 : Nat) : Int) := by rw [show (f : Int) - 1 = ((f - 1 : Nat) : Int) by omega]; exact wrap_nat (by omega)
  rw [hw1]
  -- the blocks are held against those above
  refine loop_i (fun (x : Int) w4 => ∃ k : Nat, x = (k : Int) - 1 ∧ k ≤ f ∧ Ext w3 w4 ∧ ∀ j, k ≤ j → j < f → vhold X.q n BB j = true) (fun x _ => (x + 1).toNat) ⟨f, by omega, Nat.le_refl _, Fr.refl _ _, fun j h1 h2 => by omega⟩ ?_
  rintro x w4 again ⟨k1, rfl, hk1, e4, hdone⟩ hag
  have h4 := h3.ext e4
  have rp4 := rp3.ext e4
  have P4 := P3.ext e4
  have o4 := o3.ext e4
  have F4 := F3.then e4
  refine cond_i (fun hge => ?_) (fun hlt => ?_)
  · obtain ⟨k, rfl⟩ : ∃ k, k1 = k + 1 := ⟨k1 - 1, by have : ((k1 : Int) - 1) ≥ 0 := of_decide_eq_true hge; omega⟩
    rw [show ((k + 1 : Nat) : Int) - 1 = (k : Int) by omega]
    have hkx : k < xs.length := by omega
    have hkh : k ≤ X.x.h := by omega
    have hwk : IntKind.wrap .i64 ((k : Int) + 1) = ((k + 1 : Nat) : Int) := wrap_nat (n := k + 1) (by omega)
    rw [hwk]
    refine join_i (fun (s : Sl) w5 => w5 = w4 ∧ ∃ ab, Bts w4 s ab ∧ ab.length ≤ 1000000 ∧ (k ≠ X.x.h → ab = BB (k + 1))) ?_ fun J hJ => ?_
    rotate_left
    · refine cond_i (fun hl => ?_) (fun hl => ?_)
      · have hl' : k + 1 < xs.length := by have : ((k + 1 : Nat) : Int) < (v.len : Int) := of_decide_eq_true hl
                                           omega
        refine elem_i (l := .slc) (x := (xs[k + 1]'hl').1) o4.rd (by omega) (by omega) (by rw [Int.toNat_natCast]; exact hxget _ hl') ?_
        have hg := hget _ hl'
        have hm := List.getElem_mem hl'
        generalize xs[k + 1]'hl' = y at hg hm
        have hbl := hblen (k + 1) (by omega)
        exact hJ _ _ ⟨rfl, BB (k + 1), by rw [← hg]; exact ((hx3 y hm).1).ext e4, by omega, fun _ => rfl⟩
      · have hl' : ¬ k + 1 < xs.length := by have : ¬ ((k + 1 : Nat) : Int) < (v.len : Int) := of_decide_eq_false hl
                                             omega
        exact hJ _ _ ⟨rfl, [], Rd.nilSl _ _, by simp, fun hne => by omega⟩
    rintro s w5 ⟨rfl, ab, hab, habl, habe⟩
    have hd := Ext.drew w5
    refine ⟨fun y => Ext w5 y, hd, ?_⟩
    obtain ⟨pa, hpa⟩ := rp4.some (by omega)
    obtain ⟨va, hva⟩ := o4.rd.some (by omega)
    refine elemQ_i (l := .cpx) (x := cz (n / X.x.aN ^ k) k) hpa (fun y hy => rp4.ext hy) (by omega) (by omega) (by rw [Int.toNat_natCast]; exact pathTo_get hkh) ?_
    refine elemQ_i (l := .slc) (x := (xs[k]'hkx).1) hva (fun y hy => o4.rd.ext hy) (by omega) (by omega) (by rw [Int.toNat_natCast]; exact hxget _ hkx) ?_
    have hg := hget _ hkx
    have hm := List.getElem_mem hkx
    generalize xs[k]'hkx = y at hg hm
    have hbl := hblen k hkh
    have hyb : Bts w5.drew y.1 (BB k) := by rw [← hg]; exact (((hx3 y hm).1).ext e4).ext hd
    have E := e4.trans hd
    refine vHolds_s (h4.ext hd) (ht.ext (P4.ext hd).e0) hx hn hkh hyb (hab.ext hd) (by omega) habl fun w6 e6 => ?_
    have hsame : chk X.q.a X.q.salt (if k = X.x.h then X.q.dig else ab) (if k = X.x.h then 0 else (offAt X.x n k : Int)) (BB k) = vhold X.q n BB k := by
      rw [hvh]
      by_cases hkk : k = X.x.h
      · simp [hkk]
      · simp only [hkk, if_false]; rw [habe hkk]
    rw [hsame]
    have E6 := hd.trans e6
    have h6 := h4.ext E6
    refine cond_i (fun hbad => ?_) (fun hgood => ?_)
    · have hall : (List.range f).any (fun k => !vhold X.q n BB k) = true := List.any_eq_true.2 ⟨k, List.mem_range.2 (by omega), hbad⟩
      rw [if_pos hall] at hK
      refine nil_i rfl ?_
      refine ld1_i (l := .int .i64) (o := 16) X.mode h6.var rfl ?_
      refine nil_i rfl ?_
      refine st1_i (o := 19) h6.var (by simp [vCells]) rfl fun w7 f7 v7 => ?_
      have f7 : Fr (fun k => k = X.gr) w6 w7 := f7
      have h7 : VrAt w7 B X { V0 with broken := X.mode == 1 } := h6.upVar f7 v7 rfl rfl rfl h6.tr h6.trc fun k hk => h6.sep k (hk.elim .inl fun hk => .inr (.inl hk))
      refine hK Sl.nil w7 { V0 with broken := X.mode == 1 } ((F4.then E6).trans f7 fun k _ hk => .inr (.inl hk)) ((P4.ext E6).fr f7 (fun k hk e => by have := (hP.lo k hk).2; omega) fun k hk => by omega) h7 ?_ hall0 (Own.nilSl _ _ _) (hnilB (Q := fun k => VM.mut { V0 with broken := X.mode == 1 } X k ∨ VM.imm { V0 with broken := X.mode == 1 } X k))
      show (⟨X.mode == 1, knP V0.kn, V0.trc.map (·.2)⟩ : Vr) = _
      rw [hkn0, hV0]; rfl
    · have hgood' : vhold X.q n BB k = true := by simpa using hgood
      have hwk2 : IntKind.wrap .i64 ((k : Int) - 1) = (k : Int) - 1 := wrap_i64 (by omega) (by omega)
      rw [hwk2]
      refine hag _ w6 ⟨k, rfl, by omega, e4.trans E6, fun j h1 h2 => ?_⟩ (by omega)
      rcases Nat.lt_or_ge k j with h | h
      · exact hdone j (by omega) h2
      · rw [show j = k by omega]; exact hgood'
  · have hk0 : k1 = 0 := by have : ¬ ((k1 : Int) - 1) ≥ 0 := of_decide_eq_false hlt
                            omega
    subst hk0
    have hall : (List.range f).any (fun k => !vhold X.q n BB k) = false := List.any_eq_false.2 fun k hk => by rw [hdone k (Nat.zero_le _) (List.mem_range.1 hk)]; simp
    rw [if_neg (by rw [hall]; simp)] at hK
    clear hag
    -- what is fresh is remembered
    refine loop_i (fun (x : Int) w5 => ∃ (k : Nat) (U : VM), x = k ∧ k ≤ f - 1 ∧ VrAt w5 B X U ∧ vput X.q n BB (knP U.kn) k = vput X.q n BB (knP V.kn) (f - 1) ∧ Fr (V0.mut X) w4 w5 ∧ P1 w0 w5 B X.gd L b bad ∧ U.tr = V0.tr ∧ U.trc = V0.trc ∧ U.broken = V0.broken ∧ U.m = V0.m ∧
        (∀ j, U.ord.inB j → V0.ord.inB j ∨ w4.heap.size ≤ j) ∧ (∀ j, 1 ≤ j → j ≤ k → kfind U.kn (X.x.pl n j) = none) ∧ (∀ e ∈ U.kn, e ∈ V0.kn ∨ ∃ x ∈ xs, e.s = x.1) ∧ U.kn.length ≤ 64) (fun x _ => x.toNat)
      ⟨f - 1, V0, by omega, Nat.le_refl _, h4, by rw [hkn0], Fr.refl _ _, P4, rfl, rfl, rfl, rfl, fun j hj => .inl hj, fun j h1 h2 => by rw [hkn0]; exact hflo j (by omega), fun e he => .inl he, by
        rw [hkn0]; have := hv.len; unfold knP at this; rwa [List.length_map] at this⟩ ?_
    rintro x w5 again ⟨k, U, rfl, hkf, h5, hput, f5, P5, ht5, hc5, hb5, hm5, ho5, hno5, hk5, hl5⟩ hag
    have hUm : ∀ j, U.mut X j → V0.mut X j ∨ w4.heap.size ≤ j := fun j hj => by
      rcases hj with hj | hj | hj
      · exact .inl (.inl hj)
      · exact .inl (.inr (.inl (by rw [hj, hm5])))
      · exact (ho5 j hj).imp (fun h => .inr (.inr h)) id
    have hxU : ∀ x ∈ xs, ∀ j, x.1.inB j → ¬ U.mut X j ∧ B ≤ j ∧ j < w4.heap.size := fun x hx j hj => by
      obtain ⟨q1, q2, q3⟩ := hx3s x hx j hj
      have := e4.size
      refine ⟨fun hm => ?_, q2, by omega⟩
      rcases hUm j hm with h | h
      · exact q1 h
      · omega
    have hpU : ∀ j, pv.inB j → ¬ V0.mut X j ∧ j < w4.heap.size := fun j hj => by
      have q := hpi j hj
      have := f3.size
      have := e4.size
      exact ⟨fun hm => by have := (h0.lo j hm).2; omega, by omega⟩
    have rp5 : Rd w5 pv 1 (pathTo X.x n X.x.h) := rp4.fr f5 fun a ha => (hpU _ ⟨a, ha, rfl⟩).1
    have hvU : ∀ j, v.inB j → ¬ V0.mut X j ∧ j < w4.heap.size := fun j hj => by
      have q := o3.inB hj
      have := e2.size
      have := e4.size
      exact ⟨fun hm => by have := (h0.lo j hm).2; omega, by omega⟩
    have o5 : Own w5 w2.heap.size v 1 (xs.map fun x => slV x.1) := o4.fr f5 fun a ha => (hvU _ ⟨a, ha, rfl⟩).1
    have hx5 : ∀ x ∈ xs, Bts w5 x.1 x.2 := fun x hx => (((hx3 x hx).1).ext e4).fr f5 fun a ha => (hx3s x hx _ ⟨a, ha, rfl⟩).1
    have hUl : U.ord.len = U.kn.length := own_map h5.ord
    refine join_i (fun c w6 => w6 = w5 ∧ c = (decide (1 ≤ k) && decide (U.kn.length < 64))) ?_ fun J hJ => ?_
    rotate_left
    · refine cond_i (fun hc => ?_) (fun hc => ?_)
      · have : 1 ≤ k := by have : (k : Int) ≥ 1 := of_decide_eq_true hc
                           omega
        refine nil_i rfl ?_
        refine ld1_i (l := .slc) (o := 18) U.ord h5.var rfl ?_
        refine hJ _ _ ⟨rfl, ?_⟩
        rw [decide_eq_true this, Bool.true_and, hUl]
        exact decide_eq_decide.2 (by omega)
      · have : ¬ 1 ≤ k := by have : ¬ (k : Int) ≥ 1 := of_decide_eq_false hc
                             omega
        exact hJ _ _ ⟨rfl, by rw [decide_eq_false this]; rfl⟩
    rintro c w6 ⟨rfl, rfl⟩
    refine cond_i (fun hc => ?_) (fun hc => ?_)
    · rw [Bool.and_eq_true, decide_eq_true_eq, decide_eq_true_eq] at hc
      obtain ⟨hk1, hl64⟩ := hc
      obtain ⟨j, rfl⟩ : ∃ j, k = j + 1 := ⟨k - 1, by omega⟩
      have hkx : j + 1 < xs.length := by omega
      have hkh : j + 1 ≤ X.x.h := by omega
      have hpin : n / X.x.aN ^ (j + 1) < 2 ^ 53 := by
        have h1 := path_in o hn (j + 1)
        have h2 := S.Shp.c_max o (j + 1)
        have h53 : (17179869184 : Nat) < 2 ^ 53 := by decide
        omega
      have l53 : j + 1 < 2 ^ 53 := by
        have : (35 : Nat) < 2 ^ 53 := by decide
        omega
      have hd := Ext.drew w6
      refine ⟨fun y => Ext w6 y, hd, ?_⟩
      obtain ⟨pa, hpa⟩ := rp5.some (by omega)
      obtain ⟨va, hva⟩ := o5.rd.some (by omega)
      refine nil_i rfl ?_
      refine ld1Q_i (l := .mp) (o := 17) (some U.m) (fun y hy => h5.var.ext hy) rfl ?_
      refine elemQ_i (l := .cpx) (x := cz (n / X.x.aN ^ (j + 1)) (j + 1)) hpa (fun y hy => rp5.ext hy) (by omega) (by omega) (by rw [Int.toNat_natCast]; exact pathTo_get hkh) ?_
      refine elemQ_i (l := .slc) (x := (xs[j + 1]'hkx).1) hva (fun y hy => o5.rd.ext hy) (by omega) (by omega) (by rw [Int.toNat_natCast]; exact hxget _ hkx) ?_
      have hg := hget _ hkx
      have hm := List.getElem_mem hkx
      generalize xs[j + 1]'hkx = y at hg hm
      have hbl := hblen (j + 1) hkh
      have h7 := h5.ext hd
      refine updateC_i (k := ⟨n / X.x.aN ^ (j + 1), j + 1, hpin, l53⟩) (v := y.1) h7.map rfl rfl fun w8 f8 m8 => ?_
      have hd8 := Ext.drew w8
      refine ⟨fun y => Ext w8 y, hd8, ?_⟩
      have v8 := h7.var.fr f8 h7.ne.1
      have hpm : ∀ j, pv.inB j → ¬ U.mut X j := fun i hi hm => by
        have q := hpU i hi
        rcases hUm i hm with h | h
        · exact q.1 h
        · omega
      have rp8 : Rd w8 pv 1 (pathTo X.x n X.x.h) := (rp5.ext hd).fr f8 fun a ha e => hpm _ ⟨a, ha, rfl⟩ (.inr (.inl e))
      have ord8 := h7.ord.fr f8 fun a ha e => h7.ne.2.2 ⟨a, ha, e⟩
      refine nil_i rfl ?_
      refine ld1Q_i (l := .slc) (o := 18) U.ord (fun y hy => v8.ext hy) rfl ?_
      refine elemQ_i (l := .cpx) (x := cz (n / X.x.aN ^ (j + 1)) (j + 1)) hpa (fun y hy => rp8.ext hy) (by omega) (by omega) (by rw [Int.toNat_natCast]; exact pathTo_get hkh) ?_
      refine buildV_i [vC (n / X.x.aN ^ (j + 1)) (j + 1)] rfl (fun v hv => by rw [List.mem_singleton.1 hv]; exact ⟨rfl, rfl⟩) rfl (by decide) fun t w9 e9 o9 => ?_
      have E9 := hd8.trans e9
      refine more_i E9 ?_
      have hBw9 : B ≤ w9.heap.size := by have := (h7.lo X.gr (.inl rfl)); have := f8.size; have := E9.size; omega
      have htl : t.len = 1 := by have := o9.len; simp at this; omega
      refine append_i (ord8.ext E9) o9.rd (fun v hv => by rw [List.mem_singleton.1 hv]; rfl) (by omega) hBw9 fun r w10 f10 o10 hl10 hin10 => ?_
      have v10 := (v8.ext E9).fr f10 h7.ne.2.1
      refine nil_i rfl ?_
      refine st1_i (o := 18) v10 (by simp [vCells]) rfl fun w11 f11 v11 => ?_
      have f11 : Fr (fun k => k = X.gr) w10 w11 := f11
      have G : Fr (U.mut X) w6 w11 := (((hd.fr.trans f8 fun k _ hk => (.inr (.inl hk) : U.mut X k)).then E9).trans f10 fun k _ hk => .inr (.inr hk)).trans f11 fun k _ hk => .inl hk
      have hsz8 := f8.size
      have hszE := E9.size
      have hszd := hd.size
      have hrin : ∀ i, r.inB i → U.ord.inB i ∨ w6.heap.size ≤ i := fun i hi => (hin10 i hi).imp id fun h => by omega
      have hgr7 := h7.lo X.gr (.inl rfl)
      have hm7 := h7.lo U.m (.inr (.inl rfl))
      have hrgr : ¬ r.inB X.gr := fun hi => (hin10 _ hi).elim h7.ne.2.1 fun h => by omega
      have m11 := ((m8.ext E9).fr f10 h7.ne.2.2).fr f11 fun e => h7.ne.1 e.symm
      have o11 := o10.fr f11 fun a ha e => hrgr ⟨a, ha, e⟩
      have hyU := hxU y hm
      have hyl : 1 ≤ y.2.length ∧ y.2.length ≤ 4096 := by rw [hg, hbl]; omega
      have hnew := h5.put (p := X.x.pl n (j + 1)) (s := y.1) (r := r) (bs := y.2) (q1 := hpin) (q2 := l53) G v11 m11 o11 hrin (hno5 (j + 1) (by omega) (Nat.le_refl _)) (hx5 y hm) hyl fun i hi => by
        obtain ⟨q1, q2, q3⟩ := hyU i hi
        exact ⟨q1, q2, Nat.lt_of_lt_of_le q3 f5.size⟩
      have hwk2 : IntKind.wrap .i64 (((j + 1 : Nat) : Int) - 1) = (j : Int) := by rw [show ((j + 1 : Nat) : Int) - 1 = (j : Int) by omega]; exact wrap_nat (by omega)
      rw [hwk2]
      have hnone : klook (knP U.kn) (X.x.pl n (j + 1)) = none := by rw [kfind_pure, hno5 (j + 1) (by omega) (Nat.le_refl _)]; rfl
      refine hag _ w11 ⟨j, _, rfl, by omega, hnew, ?_, f5.trans G fun i hi hm => ?_, P5.fr G (fun i hi => hDm i hi h5) fun i hm => by have := (h5.lo i hm).1; omega, ht5, hc5, hb5, hm5, fun i hi => ?_, fun i h1 h2 => ?_, fun e he => ?_, ?_⟩ (by omega)
      · rw [← hput]
        conv => rhs; unfold vput
        have hkl : (knP U.kn).length < 64 := by unfold knP; rw [List.length_map]; exact hl64
        rw [if_pos hkl]
        show vput X.q n BB (knP (U.kn ++ [⟨X.x.pl n (j + 1), y.1, y.2⟩])) j = _
        unfold knP
        rw [List.map_append]
        show vput X.q n BB (_ ++ [(X.x.pl n (j + 1), y.2)]) j = _
        rw [hg]; rfl
      · rcases hUm i hm with h | h
        · exact h
        · omega
      · rcases hrin i hi with h | h
        · exact ho5 i h
        · exact .inr (Nat.le_trans f5.size h)
      · rw [kfind_snoc (e := ⟨X.x.pl n (j + 1), y.1, y.2⟩) (hno5 (j + 1) (by omega) (Nat.le_refl _)), if_neg (pl_ne (by omega))]
        exact hno5 i h1 (by omega)
      · rcases List.mem_append.1 he with he | he
        · exact hk5 e he
        · simp at he; subst he; exact .inr ⟨y, hm, rfl⟩
      · simp only [List.length_append, List.length_singleton]; omega
    · have hfin : vput X.q n BB (knP U.kn) k = knP U.kn := by
        cases k with
        | zero => rfl
        | succ k =>
          unfold vput
          have : ¬ (knP U.kn).length < 64 := by
            unfold knP
            rw [List.length_map]
            intro hl
            rw [decide_eq_true hl, decide_eq_true (show 1 ≤ k + 1 by omega)] at hc
            cases hc
          rw [if_neg this]
      rw [hfin] at hput
      refine nil_i rfl ?_
      refine st1_i (o := 20) h5.var (by simp [vCells]) rfl fun w7 f7 v7 => ?_
      have f7 : Fr (fun k => k = X.gr) w6 w7 := f7
      have hvU2 : ∀ j, v.inB j → ¬ U.mut X j := fun i hi hm => by
        have q := hvU i hi
        rcases hUm i hm with h | h
        · exact q.1 h
        · omega
      have hvB : ∀ j, v.inB j → B ≤ j ∧ w1.heap.size ≤ j := fun i hi => by
        have q := o3.inB hi
        have := e2.size
        have := (h0.lo X.gr (.inl rfl))
        omega
      have hf5s := f5.size
      have h7 : VrAt w7 B X { U with tr := v, trc := xs } := h5.upVar f7 v7 rfl rfl rfl o5.rd (fun x hx => ⟨hx5 x hx, by
          obtain ⟨i, hi, rfl⟩ := List.getElem_of_mem hx
          have hi : i < xs.length := hi
          rw [hget i hi, hblen i (by omega)]; omega⟩) fun i hi => by
        rcases hi with hi | ⟨x, hx, hi⟩
        · exact ⟨hvU2 i hi, (hvB i hi).1, by have := (hvU i hi).2; omega⟩
        · obtain ⟨q1, q2, q3⟩ := hxU x hx i hi
          exact ⟨q1, q2, by omega⟩
      have o7 := o5.fr f7 fun a ha e => hvU2 _ ⟨a, ha, rfl⟩ (.inl e)
      have hx0 : 0 < xs.length := by omega
      refine elem_i (l := .slc) (x := (xs[0]'hx0).1) o7.rd (by omega) (by omega) (hxget 0 hx0) ?_
      have hg := hget _ hx0
      have hm := List.getElem_mem hx0
      generalize xs[0]'hx0 = y at hg hm
      have hbl := hblen 0 (Nat.zero_le _)
      have hy7 : Bts w7 y.1 (BB 0) := by rw [← hg]; exact (h7.trc y hm).1
      refine clone_s hy7 (by omega) fun r w8 e8 o8 => ?_
      have FF : Fr (fun k => k = X.gd ∨ V.mut X k) w w8 := ((F4.trans f5 fun k _ hk => .inr ((hm0 k).1 hk)).trans f7 fun k _ hk => .inr (.inl hk)).then e8
      have P7 : P1 w0 w7 B X.gd L b bad := P5.fr f7 (fun k hk e => by have := (hP.lo k hk).2; omega) fun k hk => by omega
      have hws : w.heap.size ≤ w7.heap.size := by have := F4.size; have := f7.size; omega
      refine hK r w8 { U with tr := v, trc := xs } FF (P7.ext e8) (h7.ext e8) ?_ (fun i hi => ?_) (o8.base hws) fun i hi hc => ?_
      · show (⟨U.broken, knP U.kn, xs.map (·.2)⟩ : Vr) = _
        rw [hput, ht3, hb5, hbr0, hb]
      · have hwle : w.heap.size ≤ w4.heap.size := F4.size
        have hs3' := e4.size
        rcases hi with hi | hi
        · have hi' : U.mut X i := hi
          rcases hUm i hi' with h | h
          · exact .inl ((hm0 i).1 h)
          · exact .inr (.inr (by omega))
        · have hxi : ∀ x ∈ xs, x.1.inB i → V.mut X i ∨ V.imm X i ∨ w.heap.size ≤ i := fun x hx hj => by
            obtain ⟨h4, _, _⟩ := (hx3 x hx).2 i hj
            rcases h4 with h4 | h4
            · exact .inr (.inl (hi0 i h4))
            · exact .inr (.inr (by have := e2.size; omega))
          rcases hi with hi | ⟨x, hx, hi⟩ | ⟨e, he, hi⟩ | hi | hi
          · exact .inr (.inr (by have := (hvB i hi).2; omega))
          · exact hxi x hx hi
          · rcases hk5 e he with he | ⟨x, hx, hes⟩
            · exact .inr (.inl (hi0 i (.inr (.inr (.inl ⟨e, he, hi⟩)))))
            · exact hxi x hx (by rw [← hes]; exact hi)
          · exact .inr (.inl (.inr (.inr (.inr (.inl hi)))))
          · exact .inr (.inl (.inr (.inr (.inr (.inr hi)))))
      · have q := (o8.inB hi).1
        have := (h7.in hc).2
        omega
end
end Go.Proofs.YteopoodhclljjaaGreatDoor
