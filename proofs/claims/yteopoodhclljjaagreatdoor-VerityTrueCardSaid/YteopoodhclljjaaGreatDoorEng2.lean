/- The engine, second part: operations and regions. -/
import Derived.Test.YteopoodhclljjaaGreatDoorEng
set_option linter.unusedSimpArgs false
set_option linter.unusedVariables false
namespace Go.Eng
open Go

/-! ### a computation that looks at the program alone -/
def _root_.Go.Sem.runP {α : Type} (P : Program) : Sem α → Option α
  | .pure a => some a
  | .program k => (k P).runP P
  | .mark _ k => k.runP P
  | _ => none
theorem run_of_runP {α : Type} {P : Program} {s : Sem α} {v : α} (h : s.runP P = some v) (w : World) : s.run P w = .ok v w := by
  induction s with
  | pure a => simp only [Sem.runP, Option.some.injEq] at h; subst h; rfl
  | program k ih => exact ih P h
  | mark m k ih => exact ih h
  | _ => cases h

/-! ### types -/
def leavesOf (P : Program) : Nat → TypeId → Option (List Lf)
  | 0, _ => none
  | n + 1, t => match P.underlying t with
    | some .bool => some [.bool]
    | some (.int k) => some [.int k]
    | some (.float .f64) => some [.flt]
    | some (.complex .f64) => some [.cpx]
    | some .string => some [.str]
    | some (.pointer _) => some [.ptr]
    | some (.slice _) => some [.slc]
    | some (.map _ _) => some [.mp]
    | some (.func _ _ _) => some [.any]
    | some (.interface _) => some [.any]
    | some (.struct fs) => fs.toList.foldr (fun f acc => match leavesOf P n f.type, acc with | some a, some b => some (a ++ b) | _, _ => none) (some [])
    | some (.array len e) => match leavesOf P n e with
      | some a => some (List.replicate len a).flatten
      | none => none
    | _ => none
def tyOf (P : Program) (t : TypeId) : Option Ty :=
  match P.underlying t with
  | some (.struct _) => (leavesOf P 8 t).map .agg
  | some (.array len e) => match Nat.ble len 16, P.underlying e with
    | false, some (.int k) => some (.one (.arr k))
    | true, _ => (leavesOf P 8 t).map .agg
    | _, _ => none
  | some (.tuple es) => (es.toList.foldr (fun u acc => match leavesOf P 8 u, acc with | some [l], some b => some (l :: b) | _, _ => none) (some [])).map .tup
  | _ => match leavesOf P 8 t with
    | some [l] => some (.one l)
    | _ => none
def resTys (P : Program) (t : TypeId) : Option (List Ty) :=
  match P.underlying t with
  | some (.tuple es) => es.toList.foldr (fun u acc => match tyOf P u, acc with | some t, some ts => some (t :: ts) | _, _ => none) (some [])
  | _ => match tyOf P t with
    | some t => some [t]
    | none => none

/-! ### what kind an operation is of -/
inductive OpK where
  | pure | sem (t : Ty) | unit | nilc | call (ts : List Ty) | callv (ts : List Ty) | bad
def OpK.ofTy : Option Ty → OpK
  | some t => .sem t
  | none => .bad
structure Cfg where
  N : Nat
  ro : Option Nat
  fv : List Tmp

def opK (P : Program) (c : Cfg) (o : Oper) : OpK :=
  match o.op with
  | .move _ | .assign _ | .pick .. | .field .. | .fieldAddr .. | .extract .. | .unOp .. | .makeFunc .. | .build .. => .pure
  | .binOp op t _ y _ => match P.underlying t with
    | some (.int _) => match op with
      | .quo | .rem => match y with
        | .const (.int _ n) => cond (decide (n = 0)) (OpK.ofTy (tyOf P o.type)) .pure
        | _ => OpK.ofTy (tyOf P o.type)
      | .shl | .shr => match y with
        | .const _ => .pure
        | _ => OpK.ofTy (tyOf P o.type)
      | _ => .pure
    | some .bool => .pure
    | some .string => match op with
      | .add => .sem (.one .str)
      | _ => .pure
    | some (.float _) => match op with
      | .add | .sub | .mul | .quo => .sem (.one .flt)
      | _ => .pure
    | some (.complex _) => match op with
      | .eql | .neq => .pure
      | _ => .sem (.one .cpx)
    | _ => .sem (.one .bool)
  | .convert src dst _ => match P.underlying src, P.underlying dst with
    | some (.int _), some (.int _) => .pure
    | some (.int _), some (.float _) => .pure
    | some .string, some .string => .pure
    | _, _ => OpK.ofTy (tyOf P o.type)
  | .load t _ => OpK.ofTy (tyOf P t)
  | .store .. | .mapUpdate .. | .insert .. => .unit
  | .nilCheck _ => .nilc
  | .indexAddr .. | .alloc _ | .box .. => .sem (.one .adr)
  | .index t _ i => match P.underlying t, i with
    | some (.array n _), .const _ => match Nat.ble n 16 with
      | true => .pure
      | false => OpK.ofTy (tyOf P o.type)
    | _, _ => OpK.ofTy (tyOf P o.type)
  | .next _ true => .sem .nxt
  | .slice .. | .lookup .. | .next .. | .entry _ => OpK.ofTy (tyOf P o.type)
  | .range .. => .sem (.one .adr)
  | .makeSlice .. | .buildSlice .. => .sem (.one .slc)
  | .makeMap .. => .sem (.one .mp)
  | .call cl => match cl.callee with
    | .builtin .len => match cl.argTypes[0]? with
      | some t => match P.underlying t with
        | some (.map _ _) => .sem (.one (.int .i64))
        | _ => .pure
      | none => .bad
    | .builtin .cap | .builtin .min | .builtin .max | .builtin .real | .builtin .imag | .builtin .complex => .pure
    | .builtin .append => .sem (.one .slc)
    | .builtin .copy => .sem (.one (.int .i64))
    | .builtin .delete => .sem (.tup [])
    | .value f => match resTys P o.type with
      | some ts => match f with
        | .tmp t => cond (c.fv.elem t) (.callv ts) (.call ts)
        | _ => .call ts
      | none => .bad
    | _ => .bad
  | _ => .bad

/-- The computation inside an operation that yields a value. -/
def innerOf (ρ : Operand → Value) (o : Oper) : Option (Sem Value) :=
  match o.op with
  | .alloc elem => some (Instr.alloc elem true (.tuple #[]))
  | .box elem x => some (Instr.box elem (ρ x))
  | .buildSlice t len parts => some (Instr.buildSlice t len (parts.map fun (i, x) => (i, ρ x)))
  | .load t a => some (Instr.loadAt t (ρ a))
  | .binOp op xT x y _ => some (do eqGuard op xT x y (ρ x) (ρ y); binOp op xT (ρ x) (ρ y))
  | .convert src dst x => some (convert src dst (ρ x))
  | .makeMap t r => some (Instr.makeMap t (r.map ρ))
  | .makeSlice t l c => some (Instr.makeSlice t (ρ l) (ρ c))
  | .slice t x lo hi mx => some (Instr.sliceAt t (ρ x) (lo.map ρ) (hi.map ρ) (mx.map ρ))
  | .indexAddr t x ix => some (Instr.indexAt t (ρ x) (ρ ix))
  | .index t x ix => some (Instr.index t (ρ x) (ρ ix))
  | .lookup t x ix ok => some (Instr.lookup t (ρ x) (ρ ix) ok)
  | .range t x => some (Instr.range t (ρ x))
  | .next it s => some (Instr.next (ρ it) s o.type)
  | .entry it => some (Instr.entry (ρ it))
  | .call c => match c.callee with
    | .builtin .append => some (Builtin.append_ c.argTypes o.type (c.args.map ρ))
    | .builtin .copy => some (Builtin.copy_ c.argTypes o.type (c.args.map ρ))
    | .builtin .delete => some (Builtin.delete_ c.argTypes o.type (c.args.map ρ))
    | .builtin .len => some (Builtin.len_ c.argTypes o.type (c.args.map ρ))
    | _ => none
  | _ => none
theorem execOp_inner {ρ : Operand → Value} {o : Oper} {s : Sem Value} (h : innerOf ρ o = some s) : execOp ρ o = (do pure (.value (← s))) := by
  obtain ⟨dst, op, type, pos, after, guard⟩ := o
  cases op <;> simp only [innerOf, Option.some.injEq] at h <;> first
    | (cases h; rfl)
    | (cases h; done)
    | skip
  rename_i c
  obtain ⟨callee, args, ats⟩ := c
  cases callee with
  | builtin b => cases b <;> simp only [Option.some.injEq] at h <;> first | (cases h; rfl) | cases h
  | value f => simp at h
  | invoke r m => simp at h
/-- The computation inside an operation that yields nothing. -/
def innerU (ρ : Operand → Value) (o : Oper) : Option (Sem Unit) :=
  match o.op with
  | .store t a x => some (Instr.storeAt t (ρ a) (ρ x))
  | .mapUpdate t m k x | .insert t m k x => some (Instr.mapUpdate t (ρ m) (ρ k) (ρ x))
  | _ => none
theorem execOp_innerU {ρ : Operand → Value} {o : Oper} {s : Sem Unit} (h : innerU ρ o = some s) : execOp ρ o = (do s; pure .skip) := by
  obtain ⟨dst, op, type, pos, after, guard⟩ := o
  cases op <;> simp only [innerU, Option.some.injEq] at h <;> first | (cases h; rfl) | (cases h; done)

/-- One operation, its guard aside. -/
def evStep (P : Program) (c : Cfg) (o : Oper) (e : Tr) (w : World) (next : Value → World → Prop) : Prop :=
  match opK P c o with
  | .pure => match (execOp e.val o).runP P with
    | some (.value v) => next v w
    | _ => False
  | .sem t => match innerOf e.val o with
    | some s => semS P s t (t.mk fun v w' => next v w') w
    | none => False
  | .unit => match innerU e.val o with
    | some s => semU P s (fun w' => next undef w') w
    | none => False
  | .nilc => match o.op with
    | .nilCheck x => match e.val x with
      | .pointer p => nilS p fun a => next (.pointer (some a)) w
      | _ => False
    | _ => False
  | .call ts => match (execOp e.val o).runP P with
    | some (.enter f args) => callS P f args ts (mkR ts fun v w' => next v w') w
    | _ => False
  | .callv ts => callV P (execOp e.val o) ts (mkR ts fun v w' => next v w') w
  | .bad => False

/-! ### soundness of one operation -/
def Fw (ro : Option Nat) : Fence := { fn := fun _ => True, depth := none, alive := false, round := ro }
theorem Fw_none : Fw none = Fence.wide := rfl
theorem callsIn_fw {ro : Option Nat} {n : Nat} {P : Program} {f : FuncId} {args : Array Value} {w : World} {R : Ending → World → Prop} (h : Calls P f args w R) : CallsIn (Fw ro) n P f args w R := by
  have h' := (callsIn_wide (n := n)).2 h
  exact h'

/-- A call of a function value that may be a yield: then the call is a round of the loop that ranges. -/
def callY (P : Program) (s : Sem Next) (ts : List Ty) (K : curTs ts (World → Prop)) (w : World) : Prop :=
  callV P s ts K w ∨ ∃ l fn tmps assign body, s.run P w = .ok (.round l fn tmps assign body) w ∧ RoundIn (Fw none) 0 P l fn tmps assign body w (callR ts K)
def evStepY (P : Program) (c : Cfg) (o : Oper) (e : Tr) (w : World) (next : Value → World → Prop) : Prop :=
  match opK P c o, c.ro with
  | .callv ts, none => callY P (execOp e.val o) ts (mkR ts fun v w' => next v w') w
  | _, _ => evStep P c o e w next
def notSelect (o : Oper) : Bool := match o.op with | .select .. => false | .defer _ => false | _ => true
theorem semAt_plain {ro : Option Nat} {ρ : Operand → Value} {o : Oper} (h : notSelect o = true) : o.semAt ro ρ = execOp ρ o :=
  Oper.semAt_eq ro ρ o fun c hc => by simp [notSelect, hc] at h

theorem opK_notSelect {P : Program} {c : Cfg} {o : Oper} (h : opK P c o ≠ .bad) : notSelect o = true := by
  unfold notSelect
  split
  · rename_i hs; exact absurd (by simp only [opK, hs]) h
  · rename_i hs; exact absurd (by simp only [opK, hs]) h
  · rfl

theorem evStep_notSelect {P : Program} {c : Cfg} {o : Oper} {e : Tr} {w : World} {next : Value → World → Prop} (hev : evStep P c o e w next) : notSelect o = true := by
  apply opK_notSelect (P := P) (c := c)
  intro hb
  simp [evStep, hb] at hev
theorem evStep_run {P : Program} {c : Cfg} {o : Oper} {e : Tr} {a : Act} {w : World} {next : Value → World → Prop}
    (hev : evStep P c o e w next) (hrel : Rel c.N e a) (hh : e.has o = true) :
    (∃ v w', (execOp a.eval o).run P w = .ok (.value v) w' ∧ next v w') ∨ (∃ w', (execOp a.eval o).run P w = .ok .skip w' ∧ next undef w') ∨
      ∃ f args, (execOp a.eval o).run P w = .ok (.enter f args) w ∧ Calls P f args w fun
        | .returned v, w' => next v w'
        | _, _ => False := by
  have hns := evStep_notSelect hev
  have hsel : ∀ cs b, o.op ≠ .select cs b := fun cs b hs => by simp [notSelect, hs] at hns
  rw [hrel.execOp hsel hh]
  unfold evStep at hev
  split at hev
  · -- pure
    split at hev
    · rename_i v hr
      exact .inl ⟨v, w, run_of_runP hr w, hev⟩
    · exact hev.elim
  · -- sem
    split at hev
    · rename_i t _ s hs
      obtain ⟨v, w', hr, hd⟩ := hev
      have hd' := Ty.dec_mk hd
      refine .inl ⟨v, w', ?_, hd'⟩
      rw [execOp_inner hs]
      simp only [Sem.run_bind, hr, Result.andThen_ok, Sem.run_pure]
    · exact hev.elim
  · -- unit
    split at hev
    · rename_i s hs
      obtain ⟨w', hr, hd⟩ := hev
      refine .inr (.inl ⟨w', ?_, hd⟩)
      rw [execOp_innerU hs]
      simp only [Sem.run_bind, hr, Result.andThen_ok, Sem.run_pure]
    · exact hev.elim
  · -- nilCheck
    split at hev
    · rename_i x hx
      split at hev
      · rename_i p hp
        cases p with
        | none => exact hev.elim
        | some ad =>
          refine .inl ⟨_, w, ?_, hev⟩
          unfold execOp
          simp only [hx, hp]
          rfl
      · exact hev.elim
    · exact hev.elim
  · -- call
    split at hev
    · rename_i ts _ f args hr
      refine .inr (.inr ⟨f, args, run_of_runP hr w, Calls.mono hev fun en w' hR => ?_⟩)
      cases en with
      | returned v => exact decR_mk (f := fun v w' => next v w') (fin := fun r => r w') hR
      | panicked ch => exact hR.elim
      | outgrown => exact hR.elim
    · exact hev.elim
  · -- call of a value
    rename_i ts _
    obtain ⟨g, args, hr, hc⟩ := hev
    refine .inr (.inr ⟨g, args, hr, Calls.mono hc fun en w' hR => ?_⟩)
    cases en with
    | returned v => exact decR_mk (f := fun v w' => next v w') (fin := fun r => r w') hR
    | panicked ch => exact hR.elim
    | outgrown => exact hR.elim
  · exact hev.elim

theorem evStep_sound {P : Program} {c : Cfg} {o : Oper} {e : Tr} {a : Act} {w : World} {next : Value → World → Prop} {Next : Act → World → Prop} {Q : Exit → Act → World → Prop}
    (hev : evStep P c o e w next) (hrel : Rel c.N e a) (hh : e.has o = true)
    (hk : ∀ v w', next v w' → Next (a.put o.dst v) w') : o.wpIn (Fw c.ro) 0 P a w Next Q := by
  refine ⟨fun _ _ => trivial, ?_⟩
  rw [show (Fw c.ro).round = c.ro from rfl, semAt_plain (evStep_notSelect hev)]
  rcases evStep_run hev hrel hh with ⟨v, w', hr, h⟩ | ⟨w', hr, h⟩ | ⟨f, args, hr, h⟩
  · rw [hr]; exact hk _ _ h
  · rw [hr]; exact hk _ _ h
  · rw [hr]
    refine ⟨fun h => by simp [Fw] at h, callsIn_fw (Calls.mono h fun en w' hR => ?_)⟩
    cases en with
    | returned v => exact hk _ _ hR
    | panicked ch => exact hR.elim
    | outgrown => exact hR.elim
theorem evStepY_sound {P : Program} {c : Cfg} {o : Oper} {e : Tr} {a : Act} {w : World} {next : Value → World → Prop} {Next : Act → World → Prop} {Q : Exit → Act → World → Prop}
    (hev : evStepY P c o e w next) (hrel : Rel c.N e a) (hh : e.has o = true)
    (hk : ∀ v w', next v w' → Next (a.put o.dst v) w') : o.wpIn (Fw c.ro) 0 P a w Next Q := by
  unfold evStepY at hev
  split at hev
  · rename_i ts hts hro
    rcases hev with hv | ⟨l, fn, tmps, assign, body, hr, hR⟩
    · refine evStep_sound (c := c) (e := e) (next := next) ?_ hrel hh hk
      unfold evStep; simp only [hts]; exact hv
    · have hns := opK_notSelect (P := P) (c := c) (o := o) (by rw [hts]; intro h; cases h)
      have hsel : ∀ cs b, o.op ≠ .select cs b := fun cs b hs => by simp [notSelect, hs] at hns
      refine ⟨fun _ _ => trivial, ?_⟩
      rw [show (Fw c.ro).round = c.ro from rfl, semAt_plain hns, hrel.execOp hsel hh, hr, Oper.uponIn_round, hro]
      refine ⟨fun h => by simp [Fw] at h, hR.mono fun en w' hR => ?_⟩
      cases en with
      | returned v => exact hk _ _ (decR_mk (f := fun v w' => next v w') (fin := fun r => r w') hR)
      | panicked ch => exact hR.elim
      | outgrown => exact hR.elim
  · exact evStep_sound hev hrel hh hk
theorem evStep_soundW {P : Program} {c : Cfg} {o : Oper} {e : Tr} {a : Act} {w : World} {next : Value → World → Prop} {Next : Act → World → Prop} {Q : Exit → Act → World → Prop}
    (hev : evStep P c o e w next) (hrel : Rel c.N e a) (hh : e.has o = true)
    (hk : ∀ v w', next v w' → Next (a.put o.dst v) w') : o.wp P a w Next Q := by
  unfold Oper.wp
  rcases evStep_run hev hrel hh with ⟨v, w', hr, h⟩ | ⟨w', hr, h⟩ | ⟨f, args, hr, h⟩
  · rw [hr]; exact hk _ _ h
  · rw [hr]; exact hk _ _ h
  · rw [hr]
    refine Calls.mono h fun en w' hR => ?_
    cases en with
    | returned v => exact hk _ _ hR
    | panicked ch => exact hR.elim
    | outgrown => exact hR.elim

/-! ### the operations of a region that keeps the order of the text -/
def gtmp (ops : Array Oper) (j : Nat) : Option Tmp := match ops[j]? with | some o => o.dst | none => none
def isPick (d : Tmp) (o : Oper) : Bool := match o.op with | .pick (.tmp t) _ _ => Nat.beq t d | _ => false
/-- The operations up to the one that picks by temporary d; that one; what follows. -/
def splitPick (d : Tmp) : List Oper → Option (List Oper × Oper × List Oper)
  | [] => none
  | o :: rest => match isPick d o with
    | true => some ([], o, rest)
    | false => match splitPick d rest with
      | some (g, p, r) => some (o :: g, p, r)
      | none => none
theorem splitPick_eq {d : Tmp} : ∀ {l g : List Oper} {p : Oper} {r : List Oper}, splitPick d l = some (g, p, r) → l = g ++ p :: r
  | [], _, _, _, h => by simp [splitPick] at h
  | o :: rest, g, p, r, h => by
    simp only [splitPick] at h
    split at h
    · simp at h; obtain ⟨rfl, rfl, rfl⟩ := h; rfl
    · split at h
      · rename_i g' p' r' hs
        simp at h
        obtain ⟨rfl, rfl, rfl⟩ := h
        rw [splitPick_eq hs]; rfl
      · cases h
def dstOk (N : Nat) (o : Oper) : Bool := match o.dst with | some t => Nat.blt t N | none => true
def dsts : List Oper → List Tmp
  | [] => []
  | o :: l => match o.dst with | some t => t :: dsts l | none => dsts l
theorem dsts_append (l l' : List Oper) : dsts (l ++ l') = dsts l ++ dsts l' := by
  induction l with
  | nil => rfl
  | cons o l ih => simp only [List.cons_append, dsts, ih]; split <;> rfl
theorem dsts_cons (o : Oper) (l : List Oper) : dsts (o :: l) = o.dst.toList ++ dsts l := by simp only [dsts]; split <;> simp [*]

/-- Is an operation wanted, by what the environment has? -/
def wantedE (ops : Array Oper) (e : Tr) (o : Oper) : Option Bool :=
  match o.guard with
  | none => some true
  | some (j, want) => match gtmp ops j with
    | some d => match e.get d with
      | some (.bool b) => some (b == want)
      | some (.tuple _) => some false
      | _ => none
    | none => none
theorem wantedE_sound {N : Nat} {ops : Array Oper} {e : Tr} {a : Act} {o : Oper} {b : Bool} (h : wantedE ops e o = some b) (hrel : Rel N e a) : Region.wanted o (yielded ops a.tmps) = b := by
  unfold wantedE at h
  split at h
  · rename_i hg; simp at h; subst h; simp [Region.wanted, hg]
  · rename_i j want hg
    split at h
    · rename_i d hd
      have hd' : (ops[j]?).bind (·.dst) = some d := by
        unfold gtmp at hd
        split at hd
        · rename_i oj hj; simp [hj, hd]
        · cases hd
      split at h
      · rename_i b' hb
        have := hrel.get _ _ hb
        simp at h; subst h
        simp [Region.wanted, hg, yielded, hd', this]
      · rename_i vs hb
        have := hrel.get _ _ hb
        simp at h; subst h
        simp [Region.wanted, hg, yielded, hd', this]
      · cases h
    · cases h

def isPure (P : Program) (c : Cfg) (o : Oper) : Bool := match opK P c o with | .pure => true | _ => false

/-- Pure operations, one behind the other; a guard that hangs on an unknown bool: both ways, up to its pick. -/
def pev (P : Program) (c : Cfg) (ops : Array Oper) : Nat → List Nat → List Oper → Tr → Option Tr
  | 0, _, _, _ => none
  | _ + 1, _, [], e => some e
  | n + 1, kn, o :: rest, e =>
    match o.guard with
    | none => match dstOk c.N o, e.has o, isPure P c o with
      | true, true, true => match (execOp e.val o).runP P with
        | some (.value v) => pev P c ops n kn rest (e.putD o.dst v)
        | _ => none
      | _, _, _ => none
    | some (j, want) => match gtmp ops j with
      | none => none
      | some d => match e.get d with
        | some (.tuple _) => match dstOk c.N o with
          | true => pev P c ops n kn rest (e.putD o.dst undef)
          | false => none
        | some (.bool b) => match kn.elem j with
          | true => match b == want with
            | true => match dstOk c.N o, e.has o, isPure P c o with
              | true, true, true => match (execOp e.val o).runP P with
                | some (.value v) => pev P c ops n kn rest (e.putD o.dst v)
                | _ => none
              | _, _, _ => none
            | false => match dstOk c.N o with
              | true => pev P c ops n kn rest (e.putD o.dst undef)
              | false => none
          | false => match splitPick d (o :: rest) with
            | none => none
            | some (g, p, rest') => match p.dst with
              | none => none
              | some pd => match pev P c ops n (j :: kn) (g ++ [p]) (e.put d (.bool true)), pev P c ops n (j :: kn) (g ++ [p]) (e.put d (.bool false)) with
                | some e1, some e2 => match e1.get pd, e2.get pd with
                  | some (.bool c1), some (.bool c2) => pev P c ops n kn rest' ((e.delL (dsts (g ++ [p]))).put pd (.bool (cond b c1 c2)))
                  | _, _ => none
                | _, _ => none
        | _ => none

/-- Regions in the order of the text. -/
def evOps (P : Program) (c : Cfg) (ops : Array Oper) : Nat → List Nat → List Oper → Tr → World → (Tr → World → Prop) → Prop
  | 0, _, _, _, _, _ => False
  | _ + 1, _, [], e, w, K => K e w
  | n + 1, kn, o :: rest, e, w, K =>
    match dstOk c.N o with
    | false => False
    | true =>
    match o.guard with
    | none => match e.has o with
      | true => evStepY P c o e w fun v w' => evOps P c ops n kn rest (e.putD o.dst v) w' K
      | false => False
    | some (j, want) => match gtmp ops j with
      | none => False
      | some d => match e.get d with
        | some (.tuple _) => evOps P c ops n kn rest (e.putD o.dst undef) w K
        | some (.bool b) => match kn.elem j with
          | true => match b == want with
            | true => match e.has o with
              | true => evStepY P c o e w fun v w' => evOps P c ops n kn rest (e.putD o.dst v) w' K
              | false => False
            | false => evOps P c ops n kn rest (e.putD o.dst undef) w K
          | false => match splitPick d (o :: rest) with
            | none => False
            | some (g, p, rest') => match p.dst with
              | none => False
              | some pd => match g.all (isPure P c) with
                | true => match pev P c ops n (j :: kn) (g ++ [p]) (e.put d (.bool true)), pev P c ops n (j :: kn) (g ++ [p]) (e.put d (.bool false)) with
                  | some e1, some e2 => match e1.get pd, e2.get pd with
                    | some (.bool c1), some (.bool c2) => evOps P c ops n kn rest' ((e.delL (dsts (g ++ [p]))).put pd (.bool (cond b c1 c2))) w K
                    | _, _ => False
                  | _, _ => False
                | false =>
                  joinS (fun (x : Bool) w' => evOps P c ops n kn rest' ((e.delL (dsts (g ++ [p]))).put pd (.bool x)) w' K) fun J =>
                    cond b
                      (evOps P c ops n (j :: kn) (g ++ [p]) (e.put d (.bool true)) w fun e' w' => match e'.get pd with | some (.bool x) => J x w' | _ => False)
                      (evOps P c ops n (j :: kn) (g ++ [p]) (e.put d (.bool false)) w fun e' w' => match e'.get pd with | some (.bool x) => J x w' | _ => False)
        | _ => False

/-! ### soundness of a region -/
section
variable {P : Program} {c : Cfg} {ops : Array Oper} {Q : Exit → Act → World → Prop}
abbrev wpL (P : Program) (c : Cfg) (ops : Array Oper) (Q : Exit → Act → World → Prop) (l : List Oper) (a : Act) (w : World) : Prop := wpListIn (Fw c.ro) 0 P ops Q l a w

theorem wpL_want {o : Oper} {rest : List Oper} {a : Act} {w : World} (hw : Region.wanted o (yielded ops a.tmps) = true) (h : o.wpIn (Fw c.ro) 0 P a w (wpL P c ops Q rest) Q) : wpL P c ops Q (o :: rest) a w := by
  simp only [wpL, wpListIn, hw, if_true]; exact h
theorem wpL_skip {o : Oper} {rest : List Oper} {a : Act} {w : World} (hw : Region.wanted o (yielded ops a.tmps) = false) (h : wpL P c ops Q rest (a.put o.dst undef) w) : wpL P c ops Q (o :: rest) a w := by
  simp only [wpL, wpListIn, hw]
  exact ⟨fun _ _ => trivial, h⟩
theorem dstOk_lt {o : Oper} (h : dstOk c.N o = true) : ∀ t, o.dst = some t → t < c.N := by
  intro t ht
  simp only [dstOk, ht] at h
  rw [Nat.blt_eq] at h; exact h
theorem wanted_none {o : Oper} {a : Act} (hg : o.guard = none) : Region.wanted o (yielded ops a.tmps) = true := by simp [Region.wanted, hg]
theorem wanted_of {o : Oper} {a : Act} {j : Nat} {want b : Bool} {d : Tmp} (hg : o.guard = some (j, want)) (hd : gtmp ops j = some d) (hv : a.tmps[d]? = some (.bool b)) : Region.wanted o (yielded ops a.tmps) = (b == want) := by
  have hd' : (ops[j]?).bind (·.dst) = some d := by
    unfold gtmp at hd
    split at hd
    · rename_i oj hj; simp [hj, hd]
    · cases hd
  simp [Region.wanted, hg, yielded, hd', hv]
theorem wanted_undef {o : Oper} {a : Act} {j : Nat} {want : Bool} {d : Tmp} {vs : Array Value} (hg : o.guard = some (j, want)) (hd : gtmp ops j = some d) (hv : a.tmps[d]? = some (.tuple vs)) : Region.wanted o (yielded ops a.tmps) = false := by
  have hd' : (ops[j]?).bind (·.dst) = some d := by
    unfold gtmp at hd
    split at hd
    · rename_i oj hj; simp [hj, hd]
    · cases hd
  simp [Region.wanted, hg, yielded, hd', hv]

theorem pure_step {o : Oper} {e : Tr} {a : Act} {w : World} {v : Value} {Next : Act → World → Prop} (hrel : Rel c.N e a) (hh : e.has o = true) (hp : isPure P c o = true)
    (hr : (execOp e.val o).runP P = some (.value v)) (h : Next (a.put o.dst v) w) : o.wpIn (Fw c.ro) 0 P a w Next Q := by
  refine evStep_sound (c := c) (e := e) (next := fun v' w' => v' = v ∧ w' = w) ?_ hrel hh ?_
  · unfold isPure at hp
    unfold evStep
    split at hp
    · rename_i hk; simp [hk, hr]
    · cases hp
  · rintro v' w' ⟨rfl, rfl⟩; exact h

theorem pev_sound : ∀ (n : Nat) (kn : List Nat) (l : List Oper) (e e' : Tr) (a : Act), pev P c ops n kn l e = some e' → Rel c.N e a →
    ∃ a', Rel c.N e' a' ∧ Agree (dsts l) a a' ∧ ∀ (suf : List Oper) (w : World), wpL P c ops Q suf a' w → wpL P c ops Q (l ++ suf) a w := by
  intro n
  induction n with
  | zero => intro kn l e e' a h; simp [pev] at h
  | succ n ih =>
    intro kn l e e' a h hrel
    cases l with
    | nil => simp only [pev, Option.some.injEq] at h; subst h; exact ⟨a, hrel, Agree.refl _ _, fun _ _ h => h⟩
    | cons o rest =>
      have run : ∀ (v : Value), dstOk c.N o = true → e.has o = true → isPure P c o = true → (execOp e.val o).runP P = some (.value v) → Region.wanted o (yielded ops a.tmps) = true →
          pev P c ops n kn rest (e.putD o.dst v) = some e' → ∃ a', Rel c.N e' a' ∧ Agree (dsts (o :: rest)) a a' ∧ ∀ (suf : List Oper) (w : World), wpL P c ops Q suf a' w → wpL P c ops Q ((o :: rest) ++ suf) a w := by
        intro v hd hh hp hr hw h
        obtain ⟨a', h1, h2, h3⟩ := ih kn rest _ _ _ h (hrel.put (dstOk_lt hd) v)
        refine ⟨a', h1, ?_, fun suf w hs => ?_⟩
        · rw [dsts_cons]; exact (agree_put a o.dst v).trans h2
        · exact wpL_want hw (pure_step hrel hh hp hr (h3 suf w hs))
      have skip : dstOk c.N o = true → Region.wanted o (yielded ops a.tmps) = false → pev P c ops n kn rest (e.putD o.dst undef) = some e' →
          ∃ a', Rel c.N e' a' ∧ Agree (dsts (o :: rest)) a a' ∧ ∀ (suf : List Oper) (w : World), wpL P c ops Q suf a' w → wpL P c ops Q ((o :: rest) ++ suf) a w := by
        intro hd hw h
        obtain ⟨a', h1, h2, h3⟩ := ih kn rest _ _ _ h (hrel.put (dstOk_lt hd) undef)
        refine ⟨a', h1, ?_, fun suf w hs => ?_⟩
        · rw [dsts_cons]; exact (agree_put a o.dst undef).trans h2
        · exact wpL_skip hw (h3 suf w hs)
      simp only [pev] at h
      split at h
      · rename_i hg
        split at h
        · rename_i hd hh hp
          split at h
          · rename_i v hr; exact run v hd hh hp hr (wanted_none hg) h
          · cases h
        · cases h
      · rename_i j want hg
        split at h
        · cases h
        · rename_i d hd
          split at h
          · rename_i vs hv
            split at h
            · rename_i hdo; exact skip hdo (wanted_undef hg hd (hrel.get _ _ hv)) h
            · cases h
          · rename_i b hv
            have hb := hrel.get _ _ hv
            split at h
            · split at h
              · rename_i hbw
                split at h
                · rename_i hdo hh hp
                  split at h
                  · rename_i v hr; exact run v hdo hh hp hr (by rw [wanted_of hg hd hb]; exact hbw) h
                  · cases h
                · cases h
              · rename_i hbw
                split at h
                · rename_i hdo; exact skip hdo (by rw [wanted_of hg hd hb]; exact hbw) h
                · cases h
            · split at h
              · cases h
              · rename_i g p rest' hs
                split at h
                · cases h
                · rename_i pd hpd
                  split at h
                  · rename_i e1 e2 h1 h2
                    split at h
                    · rename_i c1 c2 hc1 hc2
                      have hl := splitPick_eq hs
                      obtain ⟨eb, hpev, hcb⟩ : ∃ eb, pev P c ops n (j :: kn) (g ++ [p]) (e.put d (.bool b)) = some eb ∧ eb.get pd = some (.bool (cond b c1 c2)) := by
                        cases b
                        · exact ⟨e2, h2, hc2⟩
                        · exact ⟨e1, h1, hc1⟩
                      obtain ⟨a1, r1, g1, k1⟩ := ih (j :: kn) (g ++ [p]) _ _ a hpev (hrel.put_same hb)
                      have hrel1 : Rel c.N ((e.delL (dsts (g ++ [p]))).put pd (.bool (cond b c1 c2))) a1 := (hrel.delL g1).put_same (r1.get _ _ hcb)
                      obtain ⟨a2, r2, g2, k2⟩ := ih kn rest' _ _ a1 h hrel1
                      refine ⟨a2, r2, ?_, fun suf w hsf => ?_⟩
                      · rw [hl, show g ++ p :: rest' = (g ++ [p]) ++ rest' by simp, dsts_append]; exact g1.trans g2
                      · rw [hl, show (g ++ p :: rest') ++ suf = (g ++ [p]) ++ (rest' ++ suf) by simp]
                        exact k1 _ _ (k2 _ _ hsf)
                    · cases h
                  · cases h
          · cases h

theorem evOps_sound : ∀ (n : Nat) (kn : List Nat) (l : List Oper) (e : Tr) (a : Act) (w : World) (K : Tr → World → Prop) (suf : List Oper), evOps P c ops n kn l e w K → Rel c.N e a →
    (∀ e' a' w', Rel c.N e' a' → Agree (dsts l) a a' → K e' w' → wpL P c ops Q suf a' w') → wpL P c ops Q (l ++ suf) a w := by
  intro n
  induction n with
  | zero => intro kn l e a w K suf h; exact h.elim
  | succ n ih =>
    intro kn l e a w K suf h hrel hk
    cases l with
    | nil => exact hk e a w hrel (Agree.refl _ _) h
    | cons o rest =>
      simp only [evOps] at h
      split at h
      · exact h.elim
      · rename_i hdo
        have run : e.has o = true → Region.wanted o (yielded ops a.tmps) = true → evStepY P c o e w (fun v w' => evOps P c ops n kn rest (e.putD o.dst v) w' K) → wpL P c ops Q ((o :: rest) ++ suf) a w := by
          intro hh hw h
          refine wpL_want hw (evStepY_sound h hrel hh fun v w' hn => ?_)
          refine ih kn rest _ _ _ K suf hn (hrel.put (dstOk_lt hdo) v) fun e' a' w'' hr hag hK => hk e' a' w'' hr ?_ hK
          rw [dsts_cons]; exact (agree_put a o.dst v).trans hag
        have skip : Region.wanted o (yielded ops a.tmps) = false → evOps P c ops n kn rest (e.putD o.dst undef) w K → wpL P c ops Q ((o :: rest) ++ suf) a w := by
          intro hw h
          refine wpL_skip hw ?_
          refine ih kn rest _ _ _ K suf h (hrel.put (dstOk_lt hdo) undef) fun e' a' w'' hr hag hK => hk e' a' w'' hr ?_ hK
          rw [dsts_cons]; exact (agree_put a o.dst undef).trans hag
        split at h
        · rename_i hg
          split at h
          · rename_i hh; exact run hh (wanted_none hg) h
          · exact h.elim
        · rename_i j want hg
          split at h
          · exact h.elim
          · rename_i d hd
            split at h
            · rename_i vs hv; exact skip (wanted_undef hg hd (hrel.get _ _ hv)) h
            · rename_i b hv
              have hb := hrel.get _ _ hv
              split at h
              · split at h
                · rename_i hbw
                  split at h
                  · rename_i hh; exact run hh (by rw [wanted_of hg hd hb]; exact hbw) h
                  · exact h.elim
                · rename_i hbw; exact skip (by rw [wanted_of hg hd hb]; exact hbw) h
              · split at h
                · exact h.elim
                · rename_i g p rest' hs
                  have hl := splitPick_eq hs
                  split at h
                  · exact h.elim
                  · rename_i pd hpd
                    split at h
                    · split at h
                      · rename_i e1 e2 h1 h2
                        split at h
                        · rename_i c1 c2 hc1 hc2
                          obtain ⟨eb, hpev, hcb⟩ : ∃ eb, pev P c ops n (j :: kn) (g ++ [p]) (e.put d (.bool b)) = some eb ∧ eb.get pd = some (.bool (cond b c1 c2)) := by
                            cases b
                            · exact ⟨e2, h2, hc2⟩
                            · exact ⟨e1, h1, hc1⟩
                          obtain ⟨a1, r1, g1, k1⟩ := pev_sound (Q := Q) n (j :: kn) (g ++ [p]) _ _ a hpev (hrel.put_same hb)
                          have hrel1 : Rel c.N ((e.delL (dsts (g ++ [p]))).put pd (.bool (cond b c1 c2))) a1 := (hrel.delL g1).put_same (r1.get _ _ hcb)
                          rw [hl, show (g ++ p :: rest') ++ suf = (g ++ [p]) ++ (rest' ++ suf) by simp]
                          refine k1 _ _ (ih kn rest' _ _ _ K suf h hrel1 fun e' a' w'' hr hag hK => hk e' a' w'' hr ?_ hK)
                          rw [hl, show g ++ p :: rest' = (g ++ [p]) ++ rest' by simp, dsts_append]; exact g1.trans hag
                        · exact h.elim
                      · exact h.elim
                    · have h' : evOps P c ops n (j :: kn) (g ++ [p]) (e.put d (.bool b)) w fun e' w' => match e'.get pd with
                          | some (.bool x) => evOps P c ops n kn rest' ((e.delL (dsts (g ++ [p]))).put pd (.bool x)) w' K
                          | _ => False := by
                        unfold joinS at h
                        cases b
                        · exact h
                        · exact h
                      rw [hl, show (g ++ p :: rest') ++ suf = (g ++ [p]) ++ (rest' ++ suf) by simp]
                      refine ih (j :: kn) (g ++ [p]) _ a w _ (rest' ++ suf) h' (hrel.put_same hb) fun e' a' w' hr hag hK => ?_
                      split at hK
                      · rename_i x hx
                        have hrel1 : Rel c.N ((e.delL (dsts (g ++ [p]))).put pd (.bool x)) a' := (hrel.delL hag).put_same (hr.get _ _ hx)
                        refine ih kn rest' _ _ _ K suf hK hrel1 fun e'' a'' w'' hr' hag' hK' => hk e'' a'' w'' hr' ?_ hK'
                        rw [hl, show g ++ p :: rest' = (g ++ [p]) ++ rest' by simp, dsts_append]; exact hag.trans hag'
                      · exact hK.elim
            · exact h.elim
end
end Go.Eng
