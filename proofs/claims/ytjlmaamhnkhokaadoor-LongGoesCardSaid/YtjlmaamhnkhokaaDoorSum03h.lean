/- Layer 3 (long sums): a sum under way: New, Write. -/
import Derived.Test.YtjlmaamhnkhokaaDoorSum03g
set_option linter.unusedSimpArgs false
set_option linter.unusedVariables false
namespace Go.Proofs.YtjlmaamhnkhokaaDoor.L
open Go Go.Eng

/-- The package's tables. -/
def Tabs (w : World) : Prop := Var w 0 (S.L.sh3.H.map (Value.int .u64)) ∧ Var w 1 (S.L.sh3.K.map (Value.int .u64))
theorem Tabs.ext {w w' : World} (h : Tabs w) (e : Ext w w') : Tabs w' := ⟨h.1.ext e, h.2.ext e⟩
theorem Tabs.fr {S : Nat → Prop} {w w' : World} (h : Tabs w) (e : Fr S w w') (h0 : ¬ S 0) (h1 : ¬ S 1) : Tabs w' := ⟨h.1.fr e h0, h.2.fr e h1⟩
/-- A sum under way, in block g, its rest r: all bytes so far are 'all'. -/
structure HashAt (w : World) (B g : Nat) (r : Sl) (all : List UInt8) : Prop where
  base : 2 ≤ B ∧ B ≤ g
  var : Var w g (wl (S.L.sh3.fold S.L.sh3.first all (all.length / 128)) ++ [.slice r.a r.len r.cap, .int .u64 (all.length : Int)])
  own : OwnB w B r (all.drop (128 * (all.length / 128)))
  apart : ¬ r.inB g
theorem HashAt.ext {w w' : World} {B g : Nat} {r : Sl} {all : List UInt8} (h : HashAt w B g r all) (e : Ext w w') : HashAt w' B g r all := ⟨h.base, h.var.ext e, h.own.ext e, h.apart⟩
theorem HashAt.fr {S : Nat → Prop} {w w' : World} {B g : Nat} {r : Sl} {all : List UInt8} (h : HashAt w B g r all) (e : Fr S w w') (h1 : ¬ S g) (h2 : ∀ k, r.inB k → ¬ S k) : HashAt w' B g r all :=
  ⟨h.base, h.var.fr e h1, h.own.fr e (fun a ha => h2 _ ⟨a, ha, rfl⟩), h.apart⟩
theorem Sl.nil_inB (k : Nat) : ¬ Sl.nil.inB k := fun ⟨a, h, _⟩ => by cases h

theorem new_s {K : Option Addr → World → Prop} {w : World} (ht : Tabs w) (hK : ∀ g w', Ext w w' → w.heap.size ≤ g → HashAt w' w.heap.size g Sl.nil [] → K (some (at_ g 0)) w') : callS Tryd.prog 9 #[] [.one .ptr] K w := by
  refine f9_ok ?_
  unfold f9
  refine ld8_i (g := 0) (s := S.L.sh3.first) (tl := []) ht.1 ?_
  refine box_i fun g w1 e1 hg v1 => ?_
  exact hK g w1 e1 hg ⟨⟨by have := ht.1.lt; have := ht.2.lt; omega, hg⟩, v1, Own.nilSl _ _ _, Sl.nil_inB _⟩
end Go.Proofs.YtjlmaamhnkhokaaDoor.L
