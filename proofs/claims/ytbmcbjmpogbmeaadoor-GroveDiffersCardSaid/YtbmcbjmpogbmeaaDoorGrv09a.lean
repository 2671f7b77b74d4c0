/- Layer 9 (grove): digests, and what is asked. -/
import Derived.Test.YtbmcbjmpogbmeaaDoorPure09
import Derived.Test.YtbmcbjmpogbmeaaDoorPlc08
import Derived.Test.YtbmcbjmpogbmeaaDoorDsz
import Derived.Test.YtbmcbjmpogbmeaaDoorCat
set_option linter.unusedSimpArgs false
set_option linter.unusedVariables false
namespace Go.Proofs.YtbmcbjmpogbmeaaDoor
open Go Go.Eng
/-- The tables of both sums. -/
def Tabs9 (w : World) : Prop := Tabs w ∧ L.Tabs w
theorem Tabs9.ext {w w' : World} (h : Tabs9 w) (e : Ext w w') : Tabs9 w' := ⟨h.1.ext e, h.2.ext e⟩
def digErr (a : Int) (salt : List UInt8) : Int := if S.dsz a = 0 then 20 else if salt.length > 64 then 11 else 0
theorem dig_s {a : Int} {p1 p2 : Sl} {salt : List UInt8} {xs : List (Sl × List UInt8)} {K : Sl → Int → World → Prop} {w : World} (ht : Tabs9 w) (hs : Bts w p1 salt) (hp : Parts w p2 xs) (hl : (flatB xs).length ≤ 900000000) (hx : xs.length ≤ 1000000)
    (hErr : digErr a salt ≠ 0 → K Sl.nil (digErr a salt) w) (hOk : digErr a salt = 0 → ∀ v w', Ext w w' → OwnB w' w.heap.size v (S.dg a salt (flatB xs)) → K v 0 w') :
    callS Tryd.prog 31 #[.int .i64 a, .slice p1.a p1.len p1.cap, .slice p2.a p2.len p2.cap] [.one .slc, .one (.int .i64)] K w := by
  refine f31_ok ?_
  unfold f31
  have hsl := Bts.len hs
  unfold digErr at hErr hOk
  refine dsz_s ?_
  refine cond_i (fun h => ?_) (fun h => ?_)
  · have h : S.dsz a = 0 := by simpa using h
    rw [if_pos h] at hErr
    exact hErr (by decide)
  have hz : ¬ S.dsz a = 0 := by simpa using h
  rw [if_neg hz] at hErr hOk
  refine cond_i (fun h => ?_) (fun h => ?_)
  · have h : (p1.len : Int) > 64 := of_decide_eq_true h
    rw [if_pos (by omega)] at hErr
    exact hErr (by decide)
  have h64 : ¬ salt.length > 64 := by have : ¬ (p1.len : Int) > 64 := of_decide_eq_false h
                                      omega
  rw [if_neg h64] at hOk
  refine buildV_i [slV p1] rfl (fun v hv => by simp at hv; subst hv; exact ⟨rfl, rfl⟩) rfl (by omega) fun x w1 e1 o1 => ?_
  have hpl := hp.len
  have o1l := o1.len
  refine append_i o1 (hp.rd.ext e1) (fun v hv => by obtain ⟨y, _, rfl⟩ := List.mem_map.1 hv; rfl) (by simp at o1l; omega) e1.size fun v w2 f2 o2 hl2 hin => ?_
  have E2 : Ext w w2 := Ext.own e1 f2 fun k hk => (o1.inB hk).1
  have hpp : Parts w2 v ((p1, salt) :: xs) := ⟨o2.rd, fun y hy => by
    rcases List.mem_cons.1 hy with rfl | hy
    · exact hs.ext E2
    · exact (hp.each y hy).ext E2⟩
  have hfl : flatB ((p1, salt) :: xs) = salt ++ flatB xs := rfl
  have ht2 := ht.ext E2
  refine cond_i (fun h => ?_) (fun h => ?_)
  · have h : a = 2 := by simpa using h
    refine L.of_s hpp ht2.2 (by rw [hfl, List.length_append]; omega) (by simp; omega) fun r w3 e3 o3 => ?_
    have := hOk rfl r w3 (E2.trans e3) (by unfold S.dg; rw [if_pos h, ← hfl]; exact o3.base E2.size)
    exact this
  · have h : ¬ a = 2 := by simpa using h
    refine of_s hpp ht2.1 (by rw [hfl, List.length_append]; omega) (by simp; omega) fun r w3 e3 o3 => ?_
    exact hOk rfl r w3 (E2.trans e3) (by unfold S.dg; rw [if_neg h, ← hfl]; exact o3.base E2.size)
theorem rdig_s {a : Int} {p1 p2 : Sl} {salt xs : List UInt8} {K : Sl → World → Prop} {w : World} (hs : Bts w p1 salt) (hp : Bts w p2 xs) (ha : S.dsz a ≠ 0) (hl : salt.length + xs.length ≤ 900000000)
    (hK : ∀ v w', Ext w w' → OwnB w' w.heap.size v (S.dg a salt xs) → K v w') :
    callS Tryd.prog 20 #[.int .i64 a, .slice p1.a p1.len p1.cap, .slice p2.a p2.len p2.cap] [.one .slc] K w := by
  refine f20_ok ?_
  unfold f20
  have hsl := Bts.len hs
  refine copyV_i hs bytes_one (by omega) fun x w1 e1 o1 => ?_
  have o1 : OwnB w1 w.heap.size x salt := o1
  refine appendB_i o1 (hp.ext e1) (by omega) e1.size fun v w2 f2 o2 hin => ?_
  have E2 : Ext w w2 := Ext.own e1 f2 fun k hk => (o1.inB hk).1
  rcases S.dsz_ne ha with ⟨rfl, _⟩ | ⟨rfl, _⟩
  · refine cond_i (fun _ => ?_) (fun h => by simp at h)
    refine refSum_s o2.rd (by rw [List.length_append]; omega) fun r w3 e3 o3 => ?_
    exact hK r w3 (E2.trans e3) (o3.base E2.size)
  · refine cond_i (fun h => by simp at h) (fun _ => ?_)
    refine L.refSum_s o2.rd (by rw [List.length_append]; omega) fun r w3 e3 o3 => ?_
    exact hK r w3 (E2.trans e3) (o3.base E2.size)
/-- What the program says of an algorithm, a salt and a shape. -/
def askErr (a : Int) (salt : List UInt8) (x : S.Shp) : Int := if S.dsz a = 0 then 20 else if salt.length > 64 then 11 else if x.right = false ∨ x.d ≠ S.dsz a then 24 else 0
theorem asked_s {a : Int} {p1 : Sl} {salt : List UInt8} {x : S.Shp} {K : Int → World → Prop} {w : World} (hs : p1.len = salt.length) (hK : ∀ w', Ext w w' → K (askErr a salt x) w') :
    callS Tryd.prog 28 #[.int .i64 a, .slice p1.a p1.len p1.cap, .agg #[.int .i64 x.s, .int .i64 x.b, .int .i64 x.d]] [.one (.int .i64)] K w := by
  refine f28_ok ?_
  unfold f28
  unfold askErr at hK
  refine box_i fun g w1 e1 hg v1 => ?_
  have v1 : Var w1 g (shC x) := v1
  refine dsz_s ?_
  refine cond_i (fun h => ?_) (fun h => ?_)
  · rw [if_pos (by simpa using h)] at hK
    exact hK w1 e1
  rw [if_neg (by simpa using h)] at hK
  refine cond_i (fun h => ?_) (fun h => ?_)
  · have h : (p1.len : Int) > 64 := of_decide_eq_true h
    rw [if_pos (by omega)] at hK
    exact hK w1 e1
  have h64 : ¬ (p1.len : Int) > 64 := of_decide_eq_false h
  rw [if_neg (by omega)] at hK
  have hd := Ext.drew w1
  refine ⟨fun y => Ext w1 y, hd, ?_⟩
  refine ldShQ_i (fun y hy => v1.ext hy) ?_
  refine sRight_s fun w2 e2 => ?_
  have E2 := hd.trans e2
  refine more_i E2 ?_
  refine cond_i (fun h => ?_) (fun h => ?_)
  · rw [if_pos (.inl (by simpa using h))] at hK
    exact hK w2 (e1.trans E2)
  have hr : x.right = true := by simpa using h
  refine ld1Q_i (l := .int .i64) (o := 2) x.d (fun y hy => v1.ext hy) rfl ?_
  refine dsz_s ?_
  refine more_i E2 ?_
  refine cond_i (fun h => ?_) (fun h => ?_)
  · rw [if_pos (.inr (by simpa using h))] at hK
    exact hK w2 (e1.trans E2)
  · rw [if_neg (by rw [hr]; simpa using h)] at hK
    exact hK w2 (e1.trans E2)
end Go.Proofs.YtbmcbjmpogbmeaaDoor
