/- The engine, third part: regions that draw their order. -/
import Derived.Test.YteopoodhclljjaaGreatDoorEng2
import Derived.Deep.Draws
set_option linter.unusedSimpArgs false
set_option linter.unusedVariables false
namespace Go.Eng
open Go

/-! ### what is asked of operations that may come in any order -/
def readOp (P : Program) (o : Oper) : Bool :=
  match o.op with
  | .load .. | .indexAddr .. | .index .. | .slice .. | .binOp .. | .lookup .. => true
  | .convert _ dst _ => match P.underlying dst with
    | some (.slice _) => false
    | _ => true
  | .call c => match c.callee with
    | .builtin .len => true
    | _ => false
  | _ => false
/-- Quiet: it turns nothing in the world. Reading: quiet, and it may look at the world. -/
def isReading (P : Program) (c : Cfg) (o : Oper) : Bool := match opK P c o with | .sem _ => readOp P o | _ => false
def isQuiet (P : Program) (c : Cfg) (o : Oper) : Bool := match opK P c o with | .sem _ => readOp P o | .pure => true | .nilc => true | _ => false

def semQ (P : Program) (C : World → Prop) (s : Sem Value) (t : Ty) (K : t.cur Prop) : Prop := ∃ v, (∀ w, C w → s.run P w = .ok v w) ∧ t.dec v K fun r => r
def pickOf (e : Tr) (o : Oper) : Option (Bool × Value × Value) := match o.op with
  | .pick b x y => match e.val b with
    | .bool b => some (b, e.val x, e.val y)
    | _ => none
  | _ => none
def evQ (P : Program) (c : Cfg) (C : World → Prop) (o : Oper) (e : Tr) (next : Value → Prop) : Prop :=
  match opK P c o with
  | .pure => match pickOf e o with
    | some (b, x, y) => cond b (next x) (next y)
    | none => match (execOp e.val o).runP P with
      | some (.value v) => next v
      | _ => False
  | .sem t => match innerOf e.val o with
    | some s => semQ P C s t (t.mk next)
    | none => False
  | .nilc => match o.op with
    | .nilCheck x => match e.val x with
      | .pointer p => nilS p fun a => next (.pointer (some a))
      | _ => False
    | _ => False
  | _ => False
def drawS (w : World) (f : (World → Prop) → World → Prop) : Prop := ∃ C : World → Prop, C w.drew ∧ f C w.drew

def readyL (ops : Array Oper) (listed : Array Bool) : List Nat := Region.ready .any ops listed
def pickQuiet (P : Program) (c : Cfg) (ops : Array Oper) : List Nat → Option Nat
  | [] => none
  | i :: r => match ops[i]? with
    | some o => match isQuiet P c o with
      | true => some i
      | false => pickQuiet P c ops r
    | none => pickQuiet P c ops r
def needs (P : Program) (c : Cfg) (ops : Array Oper) (masks : List Nat) (j : Nat) : Bool :=
  (List.range ops.size).any fun k => match ops[k]? with
    | some o => isReading P c o && !Nat.beq k j && !Nat.testBit (masks.getD j 0) k
    | none => false
def allL : List Nat → (Nat → Prop) → Prop
  | [], _ => True
  | [i], f => f i
  | i :: j :: r, f => f i ∧ allL (j :: r) f
/-- The class of worlds may be narrowed behind an operation that is not quiet. -/
def moreS (C : World → Prop) (w : World) (K : (World → Prop) → Prop) : Prop := ∃ C' : World → Prop, C' w ∧ (∀ x, C' x → C x) ∧ K C'
def needC (b : Bool) (C : World → Prop) (w : World) (K : (World → Prop) → Prop) : Prop := match b with | true => moreS C w K | false => K C

def evD (P : Program) (c : Cfg) (ops : Array Oper) (masks : List Nat) : (World → Prop) → Nat → List Nat → Array Bool → Tr → World → (Tr → World → Prop) → Prop
  | _, 0, _, _, _, _, _ => False
  | C, n + 1, kn, listed, e, w, K =>
    match readyL ops listed with
    | [] => K e w
    | r :: rs => match pickQuiet P c ops (r :: rs) with
      | some i => match ops[i]? with
        | none => False
        | some o => match dstOk c.N o with
          | false => False
          | true => match o.guard with
            | none => match e.has o with
              | true => evQ P c C o e fun v => evD P c ops masks C n kn (listed.setIfInBounds i true) (e.putD o.dst v) w K
              | false => False
            | some (j, want) => match gtmp ops j with
              | none => False
              | some d => match e.get d with
                | some (.tuple _) => evD P c ops masks C n kn (listed.setIfInBounds i true) (e.putD o.dst undef) w K
                | some (.bool b) => match kn.elem j with
                  | true => match b == want with
                    | true => match e.has o with
                      | true => evQ P c C o e fun v => evD P c ops masks C n kn (listed.setIfInBounds i true) (e.putD o.dst v) w K
                      | false => False
                    | false => evD P c ops masks C n kn (listed.setIfInBounds i true) (e.putD o.dst undef) w K
                  | false => cond b (evD P c ops masks C n (j :: kn) listed (e.put d (.bool true)) w K) (evD P c ops masks C n (j :: kn) listed (e.put d (.bool false)) w K)
                | _ => False
      | none => allL (r :: rs) fun i => match ops[i]? with
        | none => False
        | some o => match dstOk c.N o with
          | false => False
          | true => match o.guard with
            | none => match e.has o with
              | true => evStep P c o e w fun v w' => needC (needs P c ops masks i) C w' fun C => evD P c ops masks C n kn (listed.setIfInBounds i true) (e.putD o.dst v) w' K
              | false => False
            | some (j, want) => match gtmp ops j with
              | none => False
              | some d => match e.get d with
                | some (.tuple _) => evD P c ops masks C n kn (listed.setIfInBounds i true) (e.putD o.dst undef) w K
                | some (.bool b) => match kn.elem j with
                  | true => match b == want with
                    | true => match e.has o with
                      | true => evStep P c o e w fun v w' => needC (needs P c ops masks i) C w' fun C => evD P c ops masks C n kn (listed.setIfInBounds i true) (e.putD o.dst v) w' K
                      | false => False
                    | false => evD P c ops masks C n kn (listed.setIfInBounds i true) (e.putD o.dst undef) w K
                  | false => cond b (evD P c ops masks C n (j :: kn) listed (e.put d (.bool true)) w K) (evD P c ops masks C n (j :: kn) listed (e.put d (.bool false)) w K)
                | _ => False

def bindsOn (o : Oper) (i : Nat) : Bool := o.after.toList.any fun e => Region.binds .any e && Nat.beq e.on i
def maskOk (ops : Array Oper) (masks : List Nat) : Bool :=
  (List.range ops.size).all fun j => match ops[j]? with
    | none => true
    | some o => (o.after.toList.all fun e => !Region.binds .any e || Nat.blt e.on j) &&
        Nat.beq (masks.getD j 0) (o.after.toList.foldl (fun s e => match Region.binds .any e with | true => s ||| (2 ^ e.on ||| masks.getD e.on 0) | false => s) 0)
def pairOk (ops : Array Oper) (i j : Nat) : Bool :=
  match ops[i]?, ops[j]? with
  | some oi, some oj => Nat.beq i j || bindsOn oj i || bindsOn oi j || oi.apart ops oj
  | _, _ => true
def drawOk (P : Program) (ops : Array Oper) (masks : List Nat) : Bool :=
  P.follows .mixedOrders && maskOk ops masks && Region.noSelect ops && ((List.range ops.size).all fun i => (List.range ops.size).all fun j => pairOk ops i j)
def evDraw (P : Program) (c : Cfg) (ops : Array Oper) (masks : List Nat) (e : Tr) (w : World) (K : Tr → World → Prop) : Prop :=
  match c.ro, drawOk P ops masks with
  | none, true => drawS w fun C w' => evD P c ops masks C (ops.size + ops.size + 1) [] (Array.replicate ops.size false) e w' K
  | _, _ => False

/-! ### soundness -/
section
variable {P : Program} {c : Cfg} {ops : Array Oper} {masks : List Nat} {C : World → Prop} {Q : Exit → Act → World → Prop}

theorem foldl_mask (masks : List Nat) (i : Nat) : ∀ (l : List Edge) (s : Nat),
    Nat.testBit (l.foldl (fun s e => match Region.binds .any e with | true => s ||| (2 ^ e.on ||| masks.getD e.on 0) | false => s) s) i = true →
    Nat.testBit s i = true ∨ ∃ e ∈ l, Region.binds .any e = true ∧ (e.on = i ∨ Nat.testBit (masks.getD e.on 0) i = true)
  | [], s, h => .inl h
  | e :: l, s, h => by
    simp only [List.foldl_cons] at h
    rcases foldl_mask masks i l _ h with h | ⟨e', he', hb, h⟩
    · cases hb : Region.binds .any e with
      | true =>
        simp only [hb, Nat.testBit_or, Bool.or_eq_true] at h
        rcases h with h | h | h
        · exact .inl h
        · exact .inr ⟨e, by simp, hb, .inl (by rw [Nat.testBit_two_pow] at h; simpa using h)⟩
        · exact .inr ⟨e, by simp, hb, .inr h⟩
      | false => simp only [hb] at h; exact .inl h
    · exact .inr ⟨e', by simp [he'], hb, h⟩

theorem maskOk_spec (h : maskOk ops masks = true) {j i : Nat} {o : Oper} (ho : ops[j]? = some o) (hb : Nat.testBit (masks.getD j 0) i = true) :
    ∃ e ∈ o.after, Region.binds .any e = true ∧ e.on < j ∧ (e.on = i ∨ Nat.testBit (masks.getD e.on 0) i = true) := by
  have hj : j < ops.size := (Array.getElem?_eq_some_iff.1 ho).1
  have := List.all_eq_true.1 h j (List.mem_range.2 hj)
  simp only [ho, Bool.and_eq_true] at this
  obtain ⟨h1, h2⟩ := this
  have h2' := Nat.eq_of_beq_eq_true h2
  rw [h2'] at hb
  rcases foldl_mask masks i _ _ hb with hz | ⟨e, he, hbe, hx⟩
  · simp at hz
  · have h3 := List.all_eq_true.1 h1 e he
    simp only [hbe, Bool.not_true, Bool.false_or] at h3
    rw [Nat.blt_eq] at h3
    exact ⟨e, by simpa using he, hbe, h3, hx⟩

def Closed (ops : Array Oper) (listed : Array Bool) : Prop := ∀ j o, ops[j]? = some o → listed.getD j false = true → ∀ e ∈ o.after, Region.binds .any e = true → listed.getD e.on false = true
theorem anc_listed (hm : maskOk ops masks = true) {listed : Array Bool} (hc : Closed ops listed) : ∀ (j : Nat) (o : Oper), ops[j]? = some o → (∀ e ∈ o.after, Region.binds .any e = true → listed.getD e.on false = true) →
    ∀ i, Nat.testBit (masks.getD j 0) i = true → listed.getD i false = true := by
  intro j
  induction j using Nat.strongRecOn with
  | _ j ih =>
    intro o ho hall i hb
    obtain ⟨e, he, hbe, hlt, hx⟩ := maskOk_spec hm ho hb
    have hl := hall e he hbe
    rcases hx with rfl | hx
    · exact hl
    · cases hoe : ops[e.on]? with
      | some oe => exact ih e.on hlt oe hoe (hc e.on oe hoe hl) i hx
      | none =>
        have hj : j < ops.size := (Array.getElem?_eq_some_iff.1 ho).1
        rw [Array.getElem?_eq_none_iff] at hoe
        omega
theorem Closed.set {listed : Array Bool} (hc : Closed ops listed) {i : Nat} (hr : i ∈ Region.ready .any ops listed) : Closed ops (listed.setIfInBounds i true) := by
  intro j o ho hl e he hb
  by_cases hij : i = j
  · subst hij
    obtain ⟨_, o', ho', hall⟩ := mem_ready.1 hr
    rw [ho] at ho'; cases ho'
    exact getD_set_true (hall e he hb)
  · rw [getD_set_ne false hij] at hl
    exact getD_set_true (hc j o ho hl e he hb)
theorem ready_lt {listed : Array Bool} {i : Nat} (hr : i ∈ Region.ready .any ops listed) : i < listed.size := by
  obtain ⟨h0, _⟩ := mem_ready.1 hr
  rcases Nat.lt_or_ge i listed.size with h | h
  · exact h
  · simp [Array.getElem?_eq_none h] at h0

def YieldsC (P : Program) (c : Cfg) (ops : Array Oper) (C : World → Prop) (o : Oper) (v : Value) (a : Act) : Prop :=
  (Region.wanted o (yielded ops a.tmps) = true ∧ ∀ w, (isReading P c o = true → C w) → (execOp a.eval o).run P w = .ok (.value v) w) ∨
  (Region.wanted o (yielded ops a.tmps) = false ∧ v = undef)
theorem YieldsC.wpOp {i : Nat} {o : Oper} {v : Value} {a : Act} (hi : ops[i]? = some o) (hy : YieldsC P c ops C o v a)
    {K : Act → World → Prop} {w : World} (hw : isReading P c o = true → C w) (h : K (a.put o.dst v) w) : wpOp P ops Q i K a w := by
  unfold Go.wpOp
  simp only [hi]
  rcases hy with ⟨hw', hv⟩ | ⟨hw', rfl⟩
  · simp only [hw', if_true, Oper.wp, hv w hw, Oper.upon]; exact .inl h
  · simp only [hw', Bool.false_eq_true, if_false]; exact h
theorem YieldsC.of_same {o : Oper} {v : Value} {a a' : Act} (hy : YieldsC P c ops C o v a) (he : execOp a'.eval o = execOp a.eval o)
    (hw : Region.wanted o (yielded ops a'.tmps) = Region.wanted o (yielded ops a.tmps)) : YieldsC P c ops C o v a' := by
  unfold YieldsC at *
  rw [he, hw]
  exact hy
theorem YieldsC.narrow {C' : World → Prop} {o : Oper} {v : Value} {a : Act} (hy : YieldsC P c ops C o v a) (hs : ∀ x, C' x → C x) : YieldsC P c ops C' o v a :=
  hy.imp (fun h => ⟨h.1, fun w hw => h.2 w fun hr => hs w (hw hr)⟩) id
theorem wpOp_putC {j : Nat} {oi oj : Oper} {v : Value} (hj : ops[j]? = some oj) (hap : oi.apart ops oj = true)
    (hsi : ∀ cs b, oi.op ≠ .select cs b) (hsj : ∀ cs b, oj.op ≠ .select cs b)
    (hQ : ∀ ch a w, ¬ Q (.panic ch) a w) (hQo : ∀ a w, ¬ Q .outgrown a w) {K : Act → World → Prop} {a : Act} {w : World}
    (hy : YieldsC P c ops C oi v a) (h : wpOp P ops Q j K (a.put oi.dst v) w) :
    wpOp P ops Q j (fun a' w' => YieldsC P c ops C oi v a' ∧ K (a'.put oi.dst v) w') a w := by
  obtain ⟨h1, h2, h3⟩ := Oper.apart_spec hap
  have keep : ∀ (a : Act), YieldsC P c ops C oi v a → ∀ u, YieldsC P c ops C oi v (a.put oj.dst u) := fun a hy u =>
    hy.of_same (execOp_put oi hsi a oj.dst u h3) (wanted_put oi a oj.dst u h3)
  have keepD : ∀ d, YieldsC P c ops C oi v { a with defers := d :: a.defers } := fun d => hy.of_same rfl rfl
  unfold wpOp at *
  simp only [hj] at *
  rw [wanted_put oj a oi.dst v h1] at h
  split
  · rename_i hw
    simp only [hw, if_true] at h
    rcases h with h | ⟨hasks, a', w', hlets⟩
    case inr => exact absurd hlets (hQo _ _)
    refine .inl ?_
    unfold Oper.wp at *
    rw [execOp_put oj hsj a oi.dst v h1] at h
    generalize (execOp a.eval oj).run P w = r at *
    cases r with
    | ok n w' =>
      cases n <;> simp only [Oper.upon] at h ⊢
      case value u => exact ⟨keep a hy u, by rw [← Act.put_comm a v u h2]; exact h⟩
      case skip => exact ⟨keep a hy _, by rw [← Act.put_comm a v undef h2]; exact h⟩
      case defer d =>
        refine ⟨keep _ (keepD d) _, ?_⟩
        rw [← Act.put_comm _ v undef h2, ← Act.put_defers]
        exact h
      case enter f args =>
        refine Calls.mono h fun e w'' he => ?_
        cases e with
        | returned u => exact ⟨keep a hy u, by rw [← Act.put_comm a v u h2]; exact he⟩
        | panicked ch => exact absurd he (hQ _ _ _)
        | outgrown => exact he
      case row row args => exact Rows.mono h fun u w'' he => ⟨keep a hy u, by rw [← Act.put_comm a v u h2]; exact he⟩
    | halt x w' =>
      cases x <;> simp only [Oper.upon] at h ⊢
      case panic u => exact absurd h (hQ _ _ _)
  · rename_i hw
    simp only [hw] at h
    exact ⟨keep a hy _, by rw [← Act.put_comm a v undef h2]; exact h⟩

def stepC (P : Program) (c : Cfg) (ops : Array Oper) (masks : List Nat) (C : World → Prop) (Q : Exit → Act → World → Prop) (i : Nat) (K : (World → Prop) → Act → World → Prop) (a : Act) (w : World) : Prop :=
  match ops[i]? with
  | none => False
  | some o => match isQuiet P c o with
    | true => ∃ v, YieldsC P c ops C o v a ∧ (isReading P c o = true → C w) ∧ K C (a.put o.dst v) w
    | false => wpOp P ops Q i (fun a' w' => ∃ C' : World → Prop, (∀ x, C' x → C x) ∧ ((needs P c ops masks i = true → C' w') ∨ (w' = w ∧ C' = C)) ∧ K C' a' w') a w
def wpAnyC (P : Program) (c : Cfg) (ops : Array Oper) (masks : List Nat) : (World → Prop) → (Exit → Act → World → Prop) → Nat → Array Bool → Act → World → Prop
  | _, Q, 0, listed, a, w => Region.ready .any ops listed = [] ∧ Q .normal a w
  | C, Q, fuel + 1, listed, a, w =>
    (Region.ready .any ops listed = [] → Q .normal a w) ∧
    ∀ i ∈ Region.ready .any ops listed, stepC P c ops masks C Q i (fun C' => wpAnyC P c ops masks C' Q fuel (listed.setIfInBounds i true)) a w
theorem wpOp_of_stepC {i : Nat} {a : Act} {w : World} {K : (World → Prop) → Act → World → Prop} {K' : Act → World → Prop} (hk : ∀ C' a w, K C' a w → K' a w) (hh : stepC P c ops masks C Q i K a w) : wpOp P ops Q i K' a w := by
  unfold stepC at hh
  split at hh
  · exact hh.elim
  · rename_i o ho
    split at hh
    · obtain ⟨v, h1, h2, h3⟩ := hh; exact h1.wpOp ho h2 (hk _ _ _ h3)
    · exact wpOp_mono (fun a w ⟨C', _, _, h⟩ => hk _ _ _ h) hh
theorem wpAny_of_C : ∀ (fuel : Nat) (C : World → Prop) (listed : Array Bool) (a : Act) (w : World), wpAnyC P c ops masks C Q fuel listed a w → wpAny P .any ops Q fuel listed a w
  | 0, _, _, _, _, h => h
  | fuel + 1, _, _, _, _, h => ⟨h.1, fun i hi => wpOp_of_stepC (fun C' a' w' hh => wpAny_of_C fuel C' _ a' w' hh) (h.2 i hi)⟩
theorem needs_of {j k : Nat} {o : Oper} (ho : ops[k]? = some o) (hr : isReading P c o = true) (hne : k ≠ j) (hb : Nat.testBit (masks.getD j 0) k = false) : needs P c ops masks j = true := by
  refine List.any_eq_true.2 ⟨k, List.mem_range.2 (Array.getElem?_eq_some_iff.1 ho).1, ?_⟩
  have : Nat.beq k j = false := by cases h : Nat.beq k j with | false => rfl | true => exact absurd (Nat.eq_of_beq_eq_true h) hne
  simp only [ho, hr, this, hb, Bool.not_false, Bool.and_self]

theorem unlisted_ne {listed : Array Bool} {k : Nat} (h0 : listed.getD k true = false) (h1 : listed.getD k false = true) : False := by
  rcases Nat.lt_or_ge k listed.size with h' | h'
  · simp [h'] at h0 h1; rw [h0] at h1; cases h1
  · simp [Array.getElem?_eq_none h'] at h1
/-- What the class is asked for: a reading operation is still to come. -/
def Pend (P : Program) (c : Cfg) (ops : Array Oper) (C : World → Prop) (listed : Array Bool) (w : World) : Prop :=
  ∀ k o, ops[k]? = some o → listed.getD k true = false → isReading P c o = true → C w
theorem Pend.set {listed : Array Bool} {w : World} (h : Pend P c ops C listed w) (i : Nat) : Pend P c ops C (listed.setIfInBounds i true) w := fun k o hk hu hr => by
  by_cases hik : i = k
  · subst hik
    rcases Nat.lt_or_ge i listed.size with h' | h'
    · simp [h'] at hu
    · simp [Array.getElem?_eq_none h'] at hu
  · rw [getD_set_ne true hik] at hu; exact h k o hk hu hr
theorem Pend.step {listed : Array Bool} {j : Nat} (hm : maskOk ops masks = true) (hcl : Closed ops listed) (hj : j ∈ Region.ready .any ops listed) {w' : World} (hC : needs P c ops masks j = true → C w') : Pend P c ops C (listed.setIfInBounds j true) w' := fun k o hk hku hkr => by
  obtain ⟨hjun, oj, hoj, hall⟩ := mem_ready.1 hj
  have hkj : k ≠ j := by
    intro he; subst he
    have hlt := ready_lt hj
    simp [hlt] at hku
  have hku' : listed.getD k true = false := by rw [getD_set_ne true (Ne.symm hkj)] at hku; exact hku
  refine hC (needs_of hk hkr hkj ?_)
  cases hb : Nat.testBit (masks.getD j 0) k with
  | false => rfl
  | true => exact (unlisted_ne hku' (anc_listed hm hcl j oj hoj hall k hb)).elim

theorem wpAnyC_first {i : Nat} {oi : Oper} {v : Value} (hi : ops[i]? = some oi) (hqi : isQuiet P c oi = true) (hm : maskOk ops masks = true) (hsel : ∀ (j : Nat) (o : Oper) cs b, ops[j]? = some o → o.op ≠ .select cs b)
    (hQ : ∀ ch a w, ¬ Q (.panic ch) a w) (hQo : ∀ a w, ¬ Q .outgrown a w)
    (hpair : ∀ j oj, ops[j]? = some oj → j ≠ i → (∀ e ∈ oj.after, Region.binds .any e = true → e.on ≠ i) → (∀ e ∈ oi.after, Region.binds .any e = true → e.on ≠ j) → oi.apart ops oj = true) :
    ∀ (fuel : Nat) (C : World → Prop) (listed : Array Bool) (a : Act) (w : World), Closed ops listed → Pend P c ops C listed w →
      i ∈ Region.ready .any ops listed → YieldsC P c ops C oi v a →
      wpAnyC P c ops masks C Q fuel (listed.setIfInBounds i true) (a.put oi.dst v) w → wpAnyC P c ops masks C Q (fuel + 1) listed a w := by
  intro fuel
  induction fuel with
  | zero =>
    intro C listed a w hcl hrd hr hy H
    have hun := (mem_ready.1 hr).1
    refine ⟨fun h => (by rw [h] at hr; cases hr), fun j hj => ?_⟩
    by_cases hji : j = i
    · subst hji; unfold stepC; simp only [hi, hqi]; exact ⟨v, hy, hrd _ _ hi hun, H⟩
    · have := ready_mono hj hji
      rw [H.1] at this
      cases this
  | succ fuel ih =>
    intro C listed a w hcl hrd hr hy H
    have hun := (mem_ready.1 hr).1
    refine ⟨fun h => (by rw [h] at hr; cases hr), fun j hj => ?_⟩
    by_cases hji : j = i
    · subst hji; unfold stepC; simp only [hi, hqi]; exact ⟨v, hy, hrd _ _ hi hun, H⟩
    · have h1 := H.2 j (ready_mono hj hji)
      obtain ⟨hjun, oj, hoj, hall⟩ := mem_ready.1 hj
      obtain ⟨_, oi', hoi', halli⟩ := mem_ready.1 hr
      rw [hi] at hoi'; cases hoi'
      have hnot : ∀ e ∈ oj.after, Region.binds .any e = true → e.on ≠ i := fun e he hb heq => unlisted_ne hun (by have := hall e he hb; rw [heq] at this; exact this)
      have hnot' : ∀ e ∈ oi.after, Region.binds .any e = true → e.on ≠ j := fun e he hb heq => unlisted_ne hjun (by have := halli e he hb; rw [heq] at this; exact this)
      have hap := hpair j oj hoj hji hnot hnot'
      unfold stepC at h1 ⊢
      simp only [hoj] at h1 ⊢
      cases hqj : isQuiet P c oj with
      | true =>
        simp only [hqj] at h1
        obtain ⟨u, hu, hru, hK⟩ := h1
        obtain ⟨p1, p2, p3⟩ := Oper.apart_spec hap
        have hu' : YieldsC P c ops C oj u a := hu.of_same (execOp_put oj (fun cs b => hsel j oj cs b hoj) a oi.dst v p1).symm (wanted_put oj a oi.dst v p1).symm
        refine ⟨u, hu', hru, ih C (listed.setIfInBounds j true) _ w (hcl.set hj) (hrd.set j) (ready_mono hr (Ne.symm hji)) ?_ ?_⟩
        · exact hy.of_same (execOp_put oi (fun cs b => hsel i oi cs b hi) a oj.dst u p3) (wanted_put oi a oj.dst u p3)
        · rw [Array.setIfInBounds_comm _ _ hji, ← Act.put_comm a v u p2]; exact hK
      | false =>
        simp only [hqj] at h1
        have h2 := wpOp_putC hoj hap (fun cs b => hsel i oi cs b hi) (fun cs b => hsel j oj cs b hoj) hQ hQo hy h1
        refine wpOp_mono (fun a' w' h3 => ?_) h2
        obtain ⟨hy', C', hs', hC', h3⟩ := h3
        refine ⟨C', hs', hC', ih C' (listed.setIfInBounds j true) a' w' (hcl.set hj) (hC'.elim (Pend.step hm hcl hj) (fun he => by rw [he.1, he.2]; exact hrd.set j)) (ready_mono hr (Ne.symm hji)) (hy'.narrow hs') ?_⟩
        rw [Array.setIfInBounds_comm _ _ hji]
        exact h3

theorem allL_mem : ∀ {l : List Nat} {f : Nat → Prop}, allL l f → ∀ i ∈ l, f i
  | [], _, _, _, h => by cases h
  | [i], f, h, j, hj => by simp at hj; subst hj; exact h
  | i :: j :: r, f, h, k, hk => by
    rcases List.mem_cons.1 hk with rfl | hk
    · exact h.1
    · exact allL_mem h.2 k hk
theorem pickQuiet_spec : ∀ {l : List Nat} {i : Nat}, pickQuiet P c ops l = some i → i ∈ l ∧ ∃ o, ops[i]? = some o ∧ isQuiet P c o = true
  | [], _, h => by simp [pickQuiet] at h
  | j :: r, i, h => by
    simp only [pickQuiet] at h
    split at h
    · rename_i o ho
      split at h
      · rename_i hq; simp at h; subst h; exact ⟨by simp, o, ho, hq⟩
      · obtain ⟨h1, h2⟩ := pickQuiet_spec h; exact ⟨by simp [h1], h2⟩
    · obtain ⟨h1, h2⟩ := pickQuiet_spec h; exact ⟨by simp [h1], h2⟩
theorem pickQuiet_none : ∀ {l : List Nat}, pickQuiet P c ops l = none → ∀ i ∈ l, ∀ o, ops[i]? = some o → isQuiet P c o = false
  | [], _, _, h => by cases h
  | j :: r, h, i, hi => by
    simp only [pickQuiet] at h
    split at h
    · rename_i o ho
      split at h
      · cases h
      · rename_i hq
        rcases List.mem_cons.1 hi with rfl | hi
        · intro o' ho'; rw [ho] at ho'; cases ho'; exact hq
        · exact pickQuiet_none h i hi
    · rename_i ho
      rcases List.mem_cons.1 hi with rfl | hi
      · intro o' ho'; rw [ho] at ho'; cases ho'
      · exact pickQuiet_none h i hi

/-- How many are still to come. -/
def left (listed : Array Bool) : Nat := (listed.toList.filter (fun b => !b)).length
theorem left_set {listed : Array Bool} {i : Nat} (hi : i < listed.size) (h0 : listed.getD i true = false) : left (listed.setIfInBounds i true) + 1 = left listed := by
  unfold left
  have hl : ∀ (l : List Bool) (i : Nat), l[i]? = some false → ((l.set i true).filter (fun b => !b)).length + 1 = (l.filter (fun b => !b)).length := by
    intro l
    induction l with
    | nil => intro i h; simp at h
    | cons b l ih =>
      intro i h
      cases i with
      | zero => simp at h; subst h; simp
      | succ i =>
        simp at h
        have := ih i h
        simp only [List.set_cons_succ, List.filter_cons]
        split <;> simp_all <;> omega
  have hx : listed.toList[i]? = some false := by
    simp [hi] at h0 ⊢
    exact h0
  rw [Array.toList_setIfInBounds]
  exact hl _ _ hx

theorem evQ_yields {o : Oper} {e : Tr} {a : Act} {next : Value → Prop} (hq : isQuiet P c o = true) (hrel : Rel c.N e a) (hh : e.has o = true) (hw : Region.wanted o (yielded ops a.tmps) = true)
    (h : evQ P c C o e next) : ∃ v, YieldsC P c ops C o v a ∧ next v := by
  have hns : notSelect o = true := by
    apply opK_notSelect (P := P) (c := c)
    intro hb
    simp [evQ, hb] at h
  have hsel : ∀ cs b, o.op ≠ .select cs b := fun cs b hs => by simp [notSelect, hs] at hns
  have hex := hrel.execOp hsel hh
  unfold evQ at h
  split at h
  · split at h
    · rename_i b x y hp
      unfold pickOf at hp
      split at hp
      · rename_i b0 x0 y0 ho
        split at hp
        · rename_i b1 hb1
          simp at hp
          obtain ⟨rfl, rfl, rfl⟩ := hp
          cases b1
          · exact ⟨_, .inl ⟨hw, fun w _ => by rw [hex]; simp [execOp, ho, hb1, asBool]⟩, h⟩
          · exact ⟨_, .inl ⟨hw, fun w _ => by rw [hex]; simp [execOp, ho, hb1, asBool]⟩, h⟩
        · cases hp
      · cases hp
    · split at h
      · rename_i v hr
        exact ⟨v, .inl ⟨hw, fun w _ => by rw [hex]; exact run_of_runP hr w⟩, h⟩
      · exact h.elim
  · rename_i t hk
    split at h
    · rename_i s hs
      obtain ⟨v, hall, hd⟩ := h
      have hd' := Ty.dec_mk (f := next) (fin := fun r => r) hd
      refine ⟨v, .inl ⟨hw, fun w hC => ?_⟩, hd'⟩
      have hrd : isReading P c o = true := by
        unfold isReading; simp only [hk]
        unfold isQuiet at hq; simp only [hk] at hq; exact hq
      rw [hex, execOp_inner hs]
      simp only [Sem.run_bind, hall w (hC hrd), Result.andThen_ok, Sem.run_pure]
    · exact h.elim
  · split at h
    · rename_i x hx
      split at h
      · rename_i p hp
        cases p with
        | none => exact h.elim
        | some ad =>
          refine ⟨_, .inl ⟨hw, fun w _ => ?_⟩, h⟩
          rw [hex]
          unfold execOp
          simp only [hx, hp]
          rfl
      · exact h.elim
    · exact h.elim
  · exact h.elim

theorem pairOk_spec (h : ((List.range ops.size).all fun i => (List.range ops.size).all fun j => pairOk ops i j) = true) {i j : Nat} {oi oj : Oper} (hi : ops[i]? = some oi) (hj : ops[j]? = some oj)
    (hne : j ≠ i) (h1 : ∀ e ∈ oj.after, Region.binds .any e = true → e.on ≠ i) (h2 : ∀ e ∈ oi.after, Region.binds .any e = true → e.on ≠ j) : oi.apart ops oj = true := by
  have hp := List.all_eq_true.1 (List.all_eq_true.1 h i (List.mem_range.2 (Array.getElem?_eq_some_iff.1 hi).1)) j (List.mem_range.2 (Array.getElem?_eq_some_iff.1 hj).1)
  simp only [pairOk, hi, hj, Bool.or_eq_true] at hp
  rcases hp with ((hp | hp) | hp) | hp
  · exact absurd (Nat.eq_of_beq_eq_true hp).symm hne
  · obtain ⟨e, he, hb⟩ := List.any_eq_true.1 hp
    simp only [Bool.and_eq_true] at hb
    exact absurd (Nat.eq_of_beq_eq_true hb.2) (h1 e (by simpa using he) hb.1)
  · obtain ⟨e, he, hb⟩ := List.any_eq_true.1 hp
    simp only [Bool.and_eq_true] at hb
    exact absurd (Nat.eq_of_beq_eq_true hb.2) (h2 e (by simpa using he) hb.1)
  · exact hp

theorem needC_spec {b : Bool} {w : World} {K : (World → Prop) → Prop} (h : needC b C w K) : ∃ C' : World → Prop, (∀ x, C' x → C x) ∧ (b = true → C' w) ∧ K C' := by
  cases b with
  | true => obtain ⟨C', h1, h2, h3⟩ := h; exact ⟨C', h2, fun _ => h1, h3⟩
  | false => exact ⟨C, fun _ h => h, fun hb => (by cases hb), h⟩

theorem evD_sound (hm : maskOk ops masks = true) (hsel : ∀ (j : Nat) (o : Oper) cs b, ops[j]? = some o → o.op ≠ .select cs b)
    (hpair : ((List.range ops.size).all fun i => (List.range ops.size).all fun j => pairOk ops i j) = true)
    (hQ : ∀ ch a w, ¬ Q (.panic ch) a w) (hQo : ∀ a w, ¬ Q .outgrown a w) :
    ∀ (n : Nat) (C : World → Prop) (kn : List Nat) (listed : Array Bool) (e : Tr) (a : Act) (w : World) (K : Tr → World → Prop) (fuel : Nat), evD P c ops masks C n kn listed e w K → Rel c.N e a → Closed ops listed → Pend P c ops C listed w → left listed ≤ fuel →
      (∀ e' a' w', Rel c.N e' a' → Agree (dsts ops.toList) a a' → K e' w' → Q .normal a' w') → wpAnyC P c ops masks C Q fuel listed a w := by
  have hd : ∀ {i : Nat} {o : Oper}, ops[i]? = some o → ∀ t ∈ o.dst.toList, t ∈ dsts ops.toList := by
    intro i o ho t ht
    have hmem : o ∈ ops.toList := by simpa using Array.mem_of_getElem? ho
    have : ∀ (l : List Oper), o ∈ l → t ∈ dsts l := by
      intro l
      induction l with
      | nil => intro h; cases h
      | cons x l ih =>
        intro h
        rw [dsts_cons]
        rcases List.mem_cons.1 h with rfl | h
        · exact List.mem_append_left _ ht
        · exact List.mem_append_right _ (ih h)
    exact this _ hmem
  intro n
  induction n with
  | zero => intro C kn listed e a w K fuel h; exact h.elim
  | succ n ih =>
    intro C kn listed e a w K fuel h hrel hcl hpd hf hk
    have agr : ∀ {i : Nat} {o : Oper} (ho : ops[i]? = some o) (v : Value) {a'' : Act}, Agree (dsts ops.toList) (a.put o.dst v) a'' → Agree (dsts ops.toList) a a'' := by
      intro i o ho v a'' hag
      exact ((agree_put a o.dst v).trans hag).mono fun t ht => by
        rcases List.mem_append.1 ht with ht | ht
        · exact hd ho t ht
        · exact ht
    simp only [evD, readyL] at h
    split at h
    · rename_i hr
      cases fuel with
      | zero => exact ⟨hr, hk _ _ _ hrel (Agree.refl _ _) h⟩
      | succ fuel => exact ⟨fun _ => hk _ _ _ hrel (Agree.refl _ _) h, fun i hi => by rw [hr] at hi; cases hi⟩
    · rename_i r rs hr
      -- there is one to come: the fuel is not used up
      have hfuel : ∃ f, fuel = f + 1 := by
        have hmem : r ∈ Region.ready .any ops listed := by rw [hr]; simp
        have hlt := ready_lt hmem
        have := left_set hlt (mem_ready.1 hmem).1
        exact ⟨fuel - 1, by omega⟩
      obtain ⟨f, rfl⟩ := hfuel
      have hleft : ∀ i ∈ Region.ready .any ops listed, left (listed.setIfInBounds i true) ≤ f := fun i hi => by
        have := left_set (ready_lt hi) (mem_ready.1 hi).1
        omega
      split at h
      · rename_i i hi
        obtain ⟨himem, oi, hoi, hq⟩ := pickQuiet_spec hi
        have himem' : i ∈ Region.ready .any ops listed := by rw [hr]; exact himem
        simp only [hoi] at h
        split at h
        · exact h.elim
        · rename_i hdo
          have run : e.has oi = true → Region.wanted oi (yielded ops a.tmps) = true → evQ P c C oi e (fun v => evD P c ops masks C n kn (listed.setIfInBounds i true) (e.putD oi.dst v) w K) → wpAnyC P c ops masks C Q (f + 1) listed a w := by
            intro hh hw h
            obtain ⟨v, hy, hn⟩ := evQ_yields hq hrel hh hw h
            refine wpAnyC_first hoi hq hm hsel hQ hQo (fun j oj hj hne h1 h2 => pairOk_spec hpair hoi hj hne h1 h2) f C listed a w hcl hpd himem' hy ?_
            exact ih C kn _ _ _ w K f hn (hrel.put (dstOk_lt hdo) v) (hcl.set himem') (hpd.set i) (hleft i himem') fun e' a' w' hr' hag hK => hk e' a' w' hr' (agr hoi v hag) hK
          have skip : Region.wanted oi (yielded ops a.tmps) = false → evD P c ops masks C n kn (listed.setIfInBounds i true) (e.putD oi.dst undef) w K → wpAnyC P c ops masks C Q (f + 1) listed a w := by
            intro hw h
            refine wpAnyC_first hoi hq hm hsel hQ hQo (fun j oj hj hne h1 h2 => pairOk_spec hpair hoi hj hne h1 h2) f C listed a w hcl hpd himem' (v := undef) (.inr ⟨hw, rfl⟩) ?_
            exact ih C kn _ _ _ w K f h (hrel.put (dstOk_lt hdo) undef) (hcl.set himem') (hpd.set i) (hleft i himem') fun e' a' w' hr' hag hK => hk e' a' w' hr' (agr hoi undef hag) hK
          split at h
          · rename_i hg
            split at h
            · rename_i hh; exact run hh (wanted_none hg) h
            · exact h.elim
          · rename_i j want hg
            split at h
            · exact h.elim
            · rename_i d hd'
              split at h
              · rename_i vs hv; exact skip (wanted_undef hg hd' (hrel.get _ _ hv)) h
              · rename_i b hv
                have hb := hrel.get _ _ hv
                split at h
                · split at h
                  · rename_i hbw
                    split at h
                    · rename_i hh; exact run hh (by rw [wanted_of hg hd' hb]; exact hbw) h
                    · exact h.elim
                  · rename_i hbw; exact skip (by rw [wanted_of hg hd' hb]; exact hbw) h
                · have h' : evD P c ops masks C n (j :: kn) listed (e.put d (.bool b)) w K := by cases b <;> exact h
                  exact ih C (j :: kn) listed _ a w K (f + 1) h' (hrel.put_same hb) hcl hpd hf hk
              · exact h.elim
      · rename_i hi
        have hall := allL_mem h
        refine ⟨fun h0 => (by rw [hr] at h0; cases h0), fun i himem => ?_⟩
        have himem' : i ∈ r :: rs := by rw [← hr]; exact himem
        have h1 := hall i himem'
        have hnq := pickQuiet_none hi i himem'
        cases hoi : ops[i]? with
        | none => simp only [hoi] at h1
        | some oi =>
          simp only [hoi] at h1
          have hq := hnq oi hoi
          unfold stepC
          simp only [hoi, hq]
          split at h1
          · exact h1.elim
          · rename_i hdo
            have run : e.has oi = true → Region.wanted oi (yielded ops a.tmps) = true → evStep P c oi e w (fun v w' => needC (needs P c ops masks i) C w' fun C => evD P c ops masks C n kn (listed.setIfInBounds i true) (e.putD oi.dst v) w' K) →
                wpOp P ops Q i (fun a' w' => ∃ C' : World → Prop, (∀ x, C' x → C x) ∧ ((needs P c ops masks i = true → C' w') ∨ (w' = w ∧ C' = C)) ∧ wpAnyC P c ops masks C' Q f (listed.setIfInBounds i true) a' w') a w := by
              intro hh hw h
              unfold wpOp
              simp only [hoi, hw, if_true]
              refine .inl (evStep_soundW h hrel hh fun v w' hn => ?_)
              obtain ⟨C', hs', hn1, hn2⟩ := needC_spec hn
              refine ⟨C', hs', .inl hn1, ?_⟩
              exact ih C' kn _ _ _ w' K f hn2 (hrel.put (dstOk_lt hdo) v) (hcl.set himem) (Pend.step hm hcl himem hn1) (hleft i himem) fun e' a' w'' hr' hag hK => hk e' a' w'' hr' (agr hoi v hag) hK
            have skip : Region.wanted oi (yielded ops a.tmps) = false → evD P c ops masks C n kn (listed.setIfInBounds i true) (e.putD oi.dst undef) w K →
                wpOp P ops Q i (fun a' w' => ∃ C' : World → Prop, (∀ x, C' x → C x) ∧ ((needs P c ops masks i = true → C' w') ∨ (w' = w ∧ C' = C)) ∧ wpAnyC P c ops masks C' Q f (listed.setIfInBounds i true) a' w') a w := by
              intro hw h
              unfold wpOp
              simp only [hoi, hw]
              refine ⟨C, fun _ h => h, .inr ⟨trivial, rfl⟩, ?_⟩
              exact ih C kn _ _ _ w K f h (hrel.put (dstOk_lt hdo) undef) (hcl.set himem) (hpd.set i) (hleft i himem) fun e' a' w'' hr' hag hK => hk e' a' w'' hr' (agr hoi undef hag) hK
            split at h1
            · rename_i hg
              split at h1
              · rename_i hh; exact run hh (wanted_none hg) h1
              · exact h1.elim
            · rename_i j want hg
              split at h1
              · exact h1.elim
              · rename_i d hd'
                split at h1
                · rename_i vs hv; exact skip (wanted_undef hg hd' (hrel.get _ _ hv)) h1
                · rename_i b hv
                  have hb := hrel.get _ _ hv
                  split at h1
                  · split at h1
                    · rename_i hbw
                      split at h1
                      · rename_i hh; exact run hh (by rw [wanted_of hg hd' hb]; exact hbw) h1
                      · exact h1.elim
                    · rename_i hbw; exact skip (by rw [wanted_of hg hd' hb]; exact hbw) h1
                  · have h' : evD P c ops masks C n (j :: kn) listed (e.put d (.bool b)) w K := by cases b <;> exact h1
                    have := ih C (j :: kn) listed _ a w K (f + 1) h' (hrel.put_same hb) hcl hpd hf hk
                    have h2 := this.2 i himem
                    unfold stepC at h2
                    simp only [hoi, hq] at h2
                    exact h2
                · exact h1.elim
end
end Go.Eng
