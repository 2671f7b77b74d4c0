/- The engine: an evaluator that turns the code of a loaded function into a plain statement about numbers, slices and worlds, and the proof that this statement suffices for a call of the function. -/
import Derived.OrdersIn
import Derived.TacticsIn
import Derived.Below
import Derived.KernelRfl
set_option linter.unusedSimpArgs false
set_option linter.unusedVariables false
namespace Go.Eng
open Go

/-! ### values by kind -/
structure Sl where
  a : Option Addr
  len : Nat
  cap : Nat
structure Cx where
  re : Nat
  im : Nat

inductive Lf where
  | int (k : IntKind) | bool | str | slc | ptr | adr | mp | flt | cpx | any | arr (k : IntKind)

abbrev Lf.T : Lf → Type
  | .int _ => Int
  | .bool => Bool
  | .str => ByteArray
  | .slc => Sl
  | .ptr => Option Addr
  | .adr => Addr
  | .mp => Option Nat
  | .flt => Nat
  | .cpx => Cx
  | .any => Value
  | .arr _ => List Int

def Lf.enc : (l : Lf) → l.T → Value
  | .int k, n => .int k n
  | .bool, b => .bool b
  | .str, s => .string s
  | .slc, s => .slice s.a s.len s.cap
  | .ptr, p => .pointer p
  | .adr, a => .pointer (some a)
  | .mp, r => .map r
  | .flt, n => .float .f64 n
  | .cpx, c => .complex .f64 c.re c.im
  | .any, v => v
  | .arr k, xs => .agg (xs.map (Value.int k)).toArray

/-- The value read as one of the kind; K of it. -/
def Lf.dec : (l : Lf) → Value → (l.T → Prop) → Prop
  | .int k, v, K => match v with | .int k' n => cond (decide (k' = k)) (K n) False | _ => False
  | .bool, v, K => match v with | .bool b => K b | _ => False
  | .str, v, K => match v with | .string s => K s | _ => False
  | .slc, v, K => match v with | .slice a n c => K ⟨a, n, c⟩ | _ => False
  | .ptr, v, K => match v with | .pointer p => K p | _ => False
  | .adr, v, K => match v with | .pointer (some a) => K a | _ => False
  | .mp, v, K => match v with | .map r => K r | _ => False
  | .flt, v, K => match v with | .float .f64 n => K n | _ => False
  | .cpx, v, K => match v with | .complex .f64 x y => K ⟨x, y⟩ | _ => False
  | .any, v, K => K v
  | .arr k, v, K => ∃ xs : List Int, v = .agg (xs.map (Value.int k)).toArray ∧ K xs

theorem Lf.dec_imp : ∀ {l : Lf} {v : Value} {K : l.T → Prop}, l.dec v K → ∃ x, v = l.enc x ∧ K x
  | .int k, v, K, h => by
    cases v <;> simp only [Lf.dec] at h
    rename_i k' n
    by_cases hk : k' = k
    · subst hk; simp at h; exact ⟨n, rfl, h⟩
    · simp [hk] at h
  | .bool, v, K, h => by cases v <;> simp only [Lf.dec] at h; exact ⟨_, rfl, h⟩
  | .str, v, K, h => by cases v <;> simp only [Lf.dec] at h; exact ⟨_, rfl, h⟩
  | .slc, v, K, h => by cases v <;> simp only [Lf.dec] at h; exact ⟨_, rfl, h⟩
  | .ptr, v, K, h => by cases v <;> simp only [Lf.dec] at h; exact ⟨_, rfl, h⟩
  | .adr, v, K, h => by
    cases v <;> simp only [Lf.dec] at h
    rename_i p
    cases p <;> simp only at h
    exact ⟨_, rfl, h⟩
  | .mp, v, K, h => by cases v <;> simp only [Lf.dec] at h; exact ⟨_, rfl, h⟩
  | .flt, v, K, h => by
    cases v <;> simp only [Lf.dec] at h
    rename_i k n
    cases k <;> simp only at h
    exact ⟨_, rfl, h⟩
  | .cpx, v, K, h => by
    cases v <;> simp only [Lf.dec] at h
    rename_i k x y
    cases k <;> simp only at h
    exact ⟨⟨x, y⟩, rfl, h⟩
  | .any, v, K, h => ⟨v, rfl, h⟩
  | .arr k, v, K, h => by obtain ⟨xs, rfl, hk⟩ := h; exact ⟨xs, rfl, hk⟩

theorem Lf.dec_enc : ∀ {l : Lf} {x : l.T} {K : l.T → Prop}, K x → l.dec (l.enc x) K
  | .int k, x, K, h => by simpa [Lf.dec, Lf.enc] using h
  | .bool, x, K, h => h
  | .str, x, K, h => h
  | .slc, x, K, h => h
  | .ptr, x, K, h => h
  | .adr, x, K, h => h
  | .mp, x, K, h => h
  | .flt, x, K, h => h
  | .cpx, x, K, h => h
  | .any, x, K, h => h
  | .arr k, x, K, h => ⟨x, rfl, h⟩

/-! ### a value of several cells; several results -/
inductive Ty where
  | one (l : Lf)
  | agg (ls : List Lf)
  | tup (ls : List Lf)
  | nxt

abbrev curL : List Lf → Type → Type
  | [], R => R
  | l :: ls, R => l.T → curL ls R
/-- '.nxt': what a string that is ranged over tells: the end, or a place and a letter. -/
structure Nxt (R : Type) where
  fin : R
  more : Int → Int → R
abbrev Ty.cur : Ty → Type → Type
  | .one l, R => l.T → R
  | .agg ls, R => curL ls R
  | .tup ls, R => curL ls R
  | .nxt, R => Nxt R
abbrev curTs : List Ty → Type → Type
  | [], R => R
  | t :: ts, R => t.cur (curTs ts R)

/-- Read the values one by one; 'fin' of what K comes to. -/
def decL {R : Type} : (ls : List Lf) → List Value → curL ls R → (R → Prop) → Prop
  | [], [], K, fin => fin K
  | [], _ :: _, _, _ => False
  | _ :: _, [], _, _ => False
  | l :: ls, v :: vs, K, fin => l.dec v fun x => decL ls vs (K x) fin
def Ty.dec {R : Type} : (t : Ty) → Value → t.cur R → (R → Prop) → Prop
  | .one l, v, K, fin => l.dec v fun x => fin (K x)
  | .agg ls, v, K, fin => match v with | .agg cs => decL ls cs.toList K fin | _ => False
  | .tup ls, v, K, fin => match v with | .tuple cs => decL ls cs.toList K fin | _ => False
  | .nxt, v, K, fin => (v = .tuple #[.bool false] ∧ fin K.fin) ∨ ∃ i c, v = .tuple #[.bool true, .int .i64 i, .int .i32 c] ∧ fin (K.more i c)
def decTs {R : Type} : (ts : List Ty) → List Value → curTs ts R → (R → Prop) → Prop
  | [], [], K, fin => fin K
  | [], _ :: _, _, _ => False
  | _ :: _, [], _, _ => False
  | t :: ts, v :: vs, K, fin => t.dec v K fun K' => decTs ts vs K' fin
/-- The results of a call: none, one, or a tuple. -/
def decR {R : Type} (ts : List Ty) (v : Value) (K : curTs ts R) (fin : R → Prop) : Prop :=
  match ts, K with
  | [], K => match v with | .tuple cs => (match cs.toList with | [] => fin K | _ => False) | _ => False
  | [t], K => t.dec v K fin
  | t :: t' :: ts, K => match v with | .tuple vs => decTs (t :: t' :: ts) vs.toList K fin | _ => False

def mkL {R : Type} : (ls : List Lf) → (List Value → R) → curL ls R
  | [], f => f []
  | l :: ls, f => fun x => mkL ls fun vs => f (l.enc x :: vs)
def Ty.mk {R : Type} : (t : Ty) → (Value → R) → t.cur R
  | .one l, f => fun x => f (l.enc x)
  | .agg ls, f => mkL ls fun vs => f (.agg vs.toArray)
  | .tup ls, f => mkL ls fun vs => f (.tuple vs.toArray)
  | .nxt, f => ⟨f (.tuple #[.bool false]), fun i c => f (.tuple #[.bool true, .int .i64 i, .int .i32 c])⟩
def mkTs {R : Type} : (ts : List Ty) → (List Value → R) → curTs ts R
  | [], f => f []
  | t :: ts, f => t.mk fun v => mkTs ts fun vs => f (v :: vs)
def mkR {R : Type} (ts : List Ty) (f : Value → R) : curTs ts R :=
  match ts with
  | [] => f (.tuple #[])
  | [t] => t.mk f
  | t :: t' :: ts => mkTs (t :: t' :: ts) fun vs => f (.tuple vs.toArray)

theorem decL_mk {R : Type} : ∀ {ls : List Lf} {vs : List Value} {f : List Value → R} {fin : R → Prop}, decL ls vs (mkL ls f) fin → fin (f vs)
  | [], [], _, _, h => h
  | [], _ :: _, _, _, h => h.elim
  | _ :: _, [], _, _, h => h.elim
  | l :: ls, v :: vs, f, fin, h => by
    obtain ⟨x, rfl, hx⟩ := Lf.dec_imp h
    exact decL_mk (f := fun vs => f (l.enc x :: vs)) hx
theorem Ty.dec_mk {R : Type} : ∀ {t : Ty} {v : Value} {f : Value → R} {fin : R → Prop}, t.dec v (t.mk f) fin → fin (f v)
  | .one l, v, f, fin, h => by obtain ⟨x, rfl, hx⟩ := Lf.dec_imp h; exact hx
  | .agg ls, v, f, fin, h => by
    cases v <;> simp only [Ty.dec] at h
    have := decL_mk h; simpa using this
  | .tup ls, v, f, fin, h => by
    cases v <;> simp only [Ty.dec] at h
    have := decL_mk h; simpa using this
  | .nxt, v, f, fin, h => by
    rcases h with ⟨rfl, h⟩ | ⟨i, c, rfl, h⟩
    · exact h
    · exact h
theorem decTs_mk {R : Type} : ∀ {ts : List Ty} {vs : List Value} {f : List Value → R} {fin : R → Prop}, decTs ts vs (mkTs ts f) fin → fin (f vs)
  | [], [], _, _, h => h
  | [], _ :: _, _, _, h => h.elim
  | _ :: _, [], _, _, h => h.elim
  | t :: ts, v :: vs, f, fin, h => by
    have h1 := Ty.dec_mk (fin := fun K' => decTs ts vs K' fin) h
    exact decTs_mk (f := fun vs => f (v :: vs)) h1
theorem decR_mk {R : Type} : ∀ {ts : List Ty} {v : Value} {f : Value → R} {fin : R → Prop}, decR ts v (mkR ts f) fin → fin (f v)
  | [], v, f, fin, h => by
    cases v <;> simp only [decR] at h
    rename_i cs
    split at h
    · rename_i hc
      have : cs = #[] := by simpa using hc
      subst this; exact h
    · exact h.elim
  | [t], v, f, fin, h => Ty.dec_mk h
  | t :: t' :: ts, v, f, fin, h => by
    cases v <;> simp only [decR] at h
    have := decTs_mk (f := fun vs => f (.tuple vs.toArray)) h
    simpa using this

/-! ### the pieces of a plain statement -/
/-- A computation of the model, and what becomes of its value. -/
def semS (P : Program) (s : Sem Value) (t : Ty) (K : t.cur (World → Prop)) (w : World) : Prop := ∃ v w', s.run P w = .ok v w' ∧ t.dec v K fun r => r w'
def semU (P : Program) (s : Sem Unit) (K : World → Prop) (w : World) : Prop := ∃ w', s.run P w = .ok () w' ∧ K w'
def callR (ts : List Ty) (K : curTs ts (World → Prop)) : Ending → World → Prop
  | .returned v, w' => decR ts v K fun r => r w'
  | _, _ => False
def callS (P : Program) (f : FuncId) (args : Array Value) (ts : List Ty) (K : curTs ts (World → Prop)) (w : World) : Prop := Calls P f args w (callR ts K)
/-- A call of a function value. -/
def callV (P : Program) (s : Sem Next) (ts : List Ty) (K : curTs ts (World → Prop)) (w : World) : Prop :=
  ∃ g args, s.run P w = .ok (.enter g args) w ∧ callS P g args ts K w
def nilS (p : Option Addr) (K : Addr → Prop) : Prop := match p with | some a => K a | none => False
def joinS {σ : Type} (rest : σ → World → Prop) (f : (σ → World → Prop) → Prop) : Prop := f rest
def loopS {σ : Type} (body : σ → World → (σ → World → Prop) → Prop) (s : σ) (w : World) : Prop :=
  ∃ (I : σ → World → Prop) (μ : σ → World → Nat), I s w ∧ ∀ s w, I s w → body s w fun s' w' => I s' w' ∧ μ s' w' < μ s w

/-! ### the environment -/
inductive Tr where
  | nil
  | node (l : Tr) (v : Option Value) (r : Tr)
def Tr.get : Tr → Nat → Option Value
  | .nil, _ => none
  | .node l v r, k => match Nat.beq k 0 with
    | true => v
    | false => match Nat.beq (k % 2) 1 with
      | true => l.get (k / 2)
      | false => r.get (k / 2 - 1)
def Tr.left : Tr → Tr
  | .nil => .nil
  | .node l _ _ => l
def Tr.mid : Tr → Option Value
  | .nil => none
  | .node _ v _ => v
def Tr.right : Tr → Tr
  | .nil => .nil
  | .node _ _ r => r
def Tr.set : Nat → Tr → Nat → Option Value → Tr
  | 0, _, _, _ => .nil
  | f + 1, t, k, v => match Nat.beq k 0 with
    | true => .node t.left v t.right
    | false => match Nat.beq (k % 2) 1 with
      | true => .node (Tr.set f t.left (k / 2) v) t.mid t.right
      | false => .node t.left t.mid (Tr.set f t.right (k / 2 - 1) v)
def Tr.put (t : Tr) (k : Nat) (v : Value) : Tr := Tr.set 12 t k (some v)
def Tr.del (t : Tr) (k : Nat) : Tr := Tr.set 12 t k none

theorem Tr.get_parts (t : Tr) (k : Nat) : t.get k = if k = 0 then t.mid else if k % 2 = 1 then t.left.get (k / 2) else t.right.get (k / 2 - 1) := by
  cases t with
  | nil => simp [Tr.get, Tr.mid, Tr.left, Tr.right]
  | node l v r =>
    simp only [Tr.get, Tr.mid, Tr.left, Tr.right]
    by_cases h : k = 0
    · simp [h]
    · have h0 : Nat.beq k 0 = false := by cases hb : Nat.beq k 0 with | false => rfl | true => exact absurd (Nat.eq_of_beq_eq_true hb) h
      simp only [h0, h, if_false]
      by_cases h1 : k % 2 = 1
      · have : Nat.beq (k % 2) 1 = true := by rw [h1]; rfl
        simp [this, h1]
      · have : Nat.beq (k % 2) 1 = false := by cases hb : Nat.beq (k % 2) 1 with | false => rfl | true => exact absurd (Nat.eq_of_beq_eq_true hb) h1
        simp [this, h1]

theorem Tr.get_set : ∀ (f : Nat) (t : Tr) (k : Nat) (v : Option Value) (k' : Nat) (x : Value), (Tr.set f t k v).get k' = some x → (k' = k ∧ v = some x) ∨ (k' ≠ k ∧ t.get k' = some x)
  | 0, t, k, v, k', x, h => by simp [Tr.set, Tr.get] at h
  | f + 1, t, k, v, k', x, h => by
    have ht := t.get_parts k'
    by_cases hk : k = 0
    · subst hk
      simp only [Tr.set, Nat.beq] at h
      rw [Tr.get_parts] at h
      simp only [Tr.mid, Tr.left, Tr.right] at h
      by_cases hk' : k' = 0
      · simp only [hk', if_true] at h; exact .inl ⟨hk', h⟩
      · simp only [hk', if_false] at h ht
        exact .inr ⟨hk', by rw [ht]; exact h⟩
    · have h0 : Nat.beq k 0 = false := by cases hb : Nat.beq k 0 with | false => rfl | true => exact absurd (Nat.eq_of_beq_eq_true hb) hk
      simp only [Tr.set, h0] at h
      by_cases h1 : k % 2 = 1
      · have hb : Nat.beq (k % 2) 1 = true := by rw [h1]; rfl
        simp only [hb] at h
        rw [Tr.get_parts] at h
        simp only [Tr.mid, Tr.left, Tr.right] at h
        by_cases hk' : k' = 0
        · simp only [hk', if_true] at h ht
          exact .inr ⟨by omega, by subst hk'; rw [ht]; exact h⟩
        · simp only [hk', if_false] at h ht
          by_cases h1' : k' % 2 = 1
          · simp only [h1', if_true] at h ht
            rcases Tr.get_set f _ _ _ _ _ h with ⟨e, hv⟩ | ⟨e, hv⟩
            · exact .inl ⟨by omega, hv⟩
            · exact .inr ⟨by intro he; subst he; exact e rfl, by rw [ht]; exact hv⟩
          · simp only [h1', if_false] at h ht
            exact .inr ⟨by intro he; subst he; exact h1' h1, by rw [ht]; exact h⟩
      · have hb : Nat.beq (k % 2) 1 = false := by cases hb : Nat.beq (k % 2) 1 with | false => rfl | true => exact absurd (Nat.eq_of_beq_eq_true hb) h1
        simp only [hb] at h
        rw [Tr.get_parts] at h
        simp only [Tr.mid, Tr.left, Tr.right] at h
        by_cases hk' : k' = 0
        · simp only [hk', if_true] at h ht
          exact .inr ⟨by omega, by subst hk'; rw [ht]; exact h⟩
        · simp only [hk', if_false] at h ht
          by_cases h1' : k' % 2 = 1
          · simp only [h1', if_true] at h ht
            exact .inr ⟨by intro he; subst he; exact h1 h1', by rw [ht]; exact h⟩
          · simp only [h1', if_false] at h ht
            rcases Tr.get_set f _ _ _ _ _ h with ⟨e, hv⟩ | ⟨e, hv⟩
            · exact .inl ⟨by omega, hv⟩
            · exact .inr ⟨by intro he; subst he; exact e rfl, by rw [ht]; exact hv⟩

def Tr.op (e : Tr) : Operand → Option Value
  | .tmp t => e.get t
  | .const v => some v
  | .global g => some (.pointer (some ⟨g, 0, none⟩))
  | .func f => some (.func (.func f) #[] #[])
def Tr.val (e : Tr) (x : Operand) : Value := match e.op x with | some v => v | none => undef
def Tr.has (e : Tr) (o : Oper) : Bool := o.op.operands.toList.all fun x => match e.op x with | some _ => true | none => false
def Tr.putD (e : Tr) (d : Option Tmp) (v : Value) : Tr := match d with | some t => e.put t v | none => e
def Tr.delL (e : Tr) : List Tmp → Tr
  | [] => e
  | t :: ts => (e.del t).delL ts

structure Rel (N : Nat) (e : Tr) (a : Act) : Prop where
  size : a.tmps.size = N
  get : ∀ t v, e.get t = some v → a.tmps[t]? = some v
structure Agree (S : List Tmp) (a a' : Act) : Prop where
  size : a'.tmps.size = a.tmps.size
  defers : a'.defers = a.defers
  tmps : ∀ t, t ∉ S → a'.tmps[t]? = a.tmps[t]?

theorem Agree.refl (S : List Tmp) (a : Act) : Agree S a a := ⟨rfl, rfl, fun _ _ => rfl⟩
theorem Agree.trans {S S' : List Tmp} {a b c : Act} (h : Agree S a b) (h' : Agree S' b c) : Agree (S ++ S') a c :=
  ⟨h'.size.trans h.size, h'.defers.trans h.defers, fun t ht => (h'.tmps t (fun hm => ht (List.mem_append_right _ hm))).trans (h.tmps t (fun hm => ht (List.mem_append_left _ hm)))⟩
theorem Agree.mono {S S' : List Tmp} {a b : Act} (h : Agree S a b) (hS : ∀ t ∈ S, t ∈ S') : Agree S' a b := ⟨h.size, h.defers, fun t ht => h.tmps t fun hm => ht (hS t hm)⟩
theorem agree_put (a : Act) (d : Option Tmp) (v : Value) : Agree d.toList a (a.put d v) := by
  cases d with
  | none => exact Agree.refl _ _
  | some t =>
    refine ⟨by simp [Act.put], rfl, fun t' ht => ?_⟩
    have : t ≠ t' := by simpa [eq_comm] using ht
    simp [Act.put, Array.getElem?_setIfInBounds, this]
theorem Rel.put {N : Nat} {e : Tr} {a : Act} (h : Rel N e a) {d : Option Tmp} (hd : ∀ t, d = some t → t < N) (v : Value) : Rel N (e.putD d v) (a.put d v) := by
  cases d with
  | none => exact h
  | some t =>
    refine ⟨by simp [Act.put, h.size], fun t' x hx => ?_⟩
    have ht := hd t rfl
    rcases Tr.get_set _ _ _ _ _ _ hx with ⟨rfl, hv⟩ | ⟨hne, hv⟩
    · simp only [Option.some.injEq] at hv
      subst hv
      simp [Act.put, h.size, ht]
    · have := h.get t' x hv
      have hne' : t ≠ t' := fun e => hne e.symm
      simp [Act.put, Array.getElem?_setIfInBounds, hne', this]
theorem Rel.put_same {N : Nat} {e : Tr} {a : Act} (h : Rel N e a) {t : Tmp} {v : Value} (hv : a.tmps[t]? = some v) : Rel N (e.put t v) a := by
  refine ⟨h.size, fun t' x hx => ?_⟩
  rcases Tr.get_set _ _ _ _ _ _ hx with ⟨rfl, hv'⟩ | ⟨_, hv'⟩
  · simp only [Option.some.injEq] at hv'; subst hv'; exact hv
  · exact h.get t' x hv'
theorem Tr.get_del {e : Tr} {t t' : Tmp} {x : Value} (h : (e.del t).get t' = some x) : t' ≠ t ∧ e.get t' = some x := by
  rcases Tr.get_set _ _ _ _ _ _ h with ⟨_, hv⟩ | h
  · cases hv
  · exact h
theorem Tr.get_delL : ∀ {ts : List Tmp} {e : Tr} {t' : Tmp} {x : Value}, (e.delL ts).get t' = some x → t' ∉ ts ∧ e.get t' = some x
  | [], _, _, _, h => ⟨by simp, h⟩
  | t :: ts, e, t', x, h => by
    obtain ⟨h1, h2⟩ := Tr.get_delL (ts := ts) h
    obtain ⟨h3, h4⟩ := Tr.get_del h2
    exact ⟨by simp [h1, h3], h4⟩
theorem Rel.delL {N : Nat} {e : Tr} {a a' : Act} {ts : List Tmp} (h : Rel N e a) (hag : Agree ts a a') : Rel N (e.delL ts) a' := by
  refine ⟨hag.size.trans h.size, fun t x hx => ?_⟩
  obtain ⟨h1, h2⟩ := Tr.get_delL hx
  rw [hag.tmps t h1]; exact h.get t x h2
theorem Rel.op {N : Nat} {e : Tr} {a : Act} (h : Rel N e a) {x : Operand} {v : Value} (hx : e.op x = some v) : a.eval x = v := by
  cases x with
  | tmp t => have := h.get t v hx; simp [Act.eval, Array.getD_eq_getD_getElem?, this]
  | const u => simpa [Tr.op, Act.eval] using hx
  | global g => simpa [Tr.op, Act.eval] using hx
  | func f => simpa [Tr.op, Act.eval] using hx
theorem Rel.execOp {N : Nat} {e : Tr} {a : Act} (h : Rel N e a) {o : Oper} (hs : ∀ cs b, o.op ≠ .select cs b) (hh : e.has o = true) : execOp a.eval o = execOp e.val o := by
  refine execOp_congr o hs fun x hx => ?_
  have := List.all_eq_true.1 hh x (by simpa using hx)
  cases hv : e.op x with
  | none => simp [hv] at this
  | some v => rw [h.op hv]; simp [Tr.val, hv]

end Go.Eng
