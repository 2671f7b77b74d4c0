/- The evaluator over codes that range over a function: the marks that such a loop leaves among the deferred calls go beside the environment. -/
import Derived.Test.YteopoodhclljjaaGreatDoorLib
import Derived.RangeFuncRecord
import Derived.RangeFuncLeaves
set_option linter.unusedSimpArgs false
set_option linter.unusedVariables false
namespace Go.Eng
open Go

def mark (D : Nat) : Deferred := { target := .collected D, args := #[] }
def hasR : Code → Bool
  | .seq x y => hasR x || hasR y
  | .block _ x => hasR x
  | .loop x => hasR x
  | .rangeFunc _ _ _ _ => true
  | _ => false
def putP : List Tmp → List Value → Tr → Tr
  | p :: ps, x :: xs, e => putP ps xs (e.put p x)
  | _, _, e => e
/-- 'for .. := range v { .. }': the function that is ranged over is called with a yield; a call of that yield is one round of the body. l: the loop's record; D: the block of the rounds' deferred calls. -/
def rangeS (P : Program) (v : Value) (w : World) (body : Nat → Obj → Obj → List Value → World → (World → Prop) → Prop) (K : Nat → World → Prop) : Prop :=
  ∃ gf lb, v = .func (.func gf) #[] lb ∧ (∀ args w, (callFunc gf args).run P w = .ok (.enter gf args) w) ∧
    ∀ (l D : Nat) (oR oB : Obj) (W1 : World), Ext w W1 → w.heap.size ≤ l → w.heap.size ≤ D → l ≠ D → W1.heap[l]? = some oR → W1.heap[D]? = some (.deferred (some [])) →
      (∀ (xs : List Value) (W : World) (R : Bool → World → Prop), W.heap[l]? = some oR → body l oR oB xs W (R true) → callY P (callSem (.func (.yield l) #[] #[]) xs.toArray) [.one .bool] R W) →
      callS P gf (#[.func (.yield l) #[] #[]] ++ lb) [] (fun W => W.heap[l]? = some oR ∧ ∀ oX, K D (W.putObj l oX)) W1
def thenD (next : Tr → List Nat → World → Prop) (Q : Exit → Tr → List Nat → World → Prop) : Exit → Tr → List Nat → World → Prop
  | .normal, e, ds, w => next e ds w
  | ex, e, ds, w => Q ex e ds w
def blockD (id : Nat) (Q : Exit → Tr → List Nat → World → Prop) : Exit → Tr → List Nat → World → Prop
  | .exit i, e, ds, w => match Nat.beq i id with | true => Q .normal e ds w | false => Q (.exit i) e ds w
  | ex, e, ds, w => Q ex e ds w
def roundE (l : Nat) (oR oB : Obj) (R : World → Prop) : Exit → Tr → World → Prop
  | .normal, _, w => w.heap[l]? = some oB ∧ R (w.putObj l oR)
  | _, _, _ => False
def assignE (K : Tr → World → Prop) : Exit → Tr → World → Prop
  | .normal, e, w => K e w
  | _, _, _ => False
def evR (P : Program) (c : Cfg) : Code → Ann → Tr → List Nat → World → (Exit → Tr → List Nat → World → Prop) → Prop
  | .seq x y, an, e, ds, w, Q => match hasR x || hasR y with
    | false => ev P c (.seq x y) an e w fun ex e' w' => Q ex e' ds w'
    | true => evR P c x an.l e ds w (thenD (fun e' ds' w' => evR P c y an.r e' ds' w' Q) Q)
  | .block id x, an, e, ds, w, Q => match hasR x with
    | false => ev P c (.block id x) an e w fun ex e' w' => Q ex e' ds w'
    | true => evR P c x an.l e ds w (blockD id Q)
  | .loop x, an, e, ds, w, Q => match hasR x with
    | false => ev P c (.loop x) an e w fun ex e' w' => Q ex e' ds w'
    | true => match an with
      | .loop sl a => decSl sl e fun s0 => loopS (fun (s : Tup sl × List Nat) w' again => evR P c x a (putSl sl s.1 (e.delL (wr x))) s.2 w' (thenD (fun e' ds' w'' => decSl sl e' fun s' => again (s', ds') w'') Q)) (s0, ds) w
      | _ => False
  | .rangeFunc g ps assign body, an, e, ds, w, Q => match an with
    | .join sl a b => match e.op g, (ps.toList.all fun p => Nat.blt p c.N), Nat.beq ps.size sl.length with
      | some v, true, true => rangeS P v w (fun l oR oB xs W R => decL (R := Prop) (sl.map (·.2)) xs (mkL (sl.map (·.2)) fun vs =>
          ev P ⟨c.N, some l, c.fv⟩ assign a (putP ps.toList vs e) W (assignE fun e' w' => w'.heap[l]? = some oR ∧ ev P ⟨c.N, some l, c.fv⟩ body b e' (w'.putObj l oB) (roundE l oR oB R))) (fun r => r)) (fun D w' => Q .normal e (D :: ds) w')
      | _, _, _ => False
    | _ => False
  | code, an, e, ds, w, Q => ev P c code an e w fun ex e' w' => Q ex e' ds w'

def AgreeT (S : List Tmp) (a a' : Act) : Prop := a'.tmps.size = a.tmps.size ∧ ∀ t, t ∉ S → a'.tmps[t]? = a.tmps[t]?
theorem Rel.defers {N : Nat} {e : Tr} {a : Act} (h : Rel N e a) (ds : List Deferred) : Rel N e { a with defers := ds } := ⟨h.1, h.2⟩
theorem Agree.toT {S : List Tmp} {a a' : Act} (h : Agree S a a') : AgreeT S a a' := ⟨h.size, h.tmps⟩
theorem AgreeT.refl (S : List Tmp) (a : Act) : AgreeT S a a := ⟨rfl, fun _ _ => rfl⟩
theorem AgreeT.trans {S S' T : List Tmp} {a b c : Act} (h : AgreeT S a b) (h' : AgreeT S' b c) (h1 : ∀ t ∈ S, t ∈ T) (h2 : ∀ t ∈ S', t ∈ T) : AgreeT T a c :=
  ⟨h'.1.trans h.1, fun t ht => (h'.2 t fun hm => ht (h2 t hm)).trans (h.2 t fun hm => ht (h1 t hm))⟩
theorem AgreeT.mono {S T : List Tmp} {a b : Act} (h : AgreeT S a b) (h1 : ∀ t ∈ S, t ∈ T) : AgreeT T a b := ⟨h.1, fun t ht => h.2 t fun hm => ht (h1 t hm)⟩
theorem Rel.delT {N : Nat} {e : Tr} {a a' : Act} {ts : List Tmp} (h : Rel N e a) (hag : AgreeT ts a a') : Rel N (e.delL ts) a' :=
  (Rel.delL h (a' := { a' with defers := a.defers }) ⟨hag.1, rfl, hag.2⟩).defers a'.defers
theorem putP_rel {N : Nat} : ∀ (ps : List Tmp) (xs : List Value) (e : Tr) (tmps : Array Value) (ds : List Deferred), Rel N e { tmps := tmps, defers := ds } → (∀ p ∈ ps, p < N) →
    Rel N (putP ps xs e) { tmps := (ps.zip xs).foldl (fun t (p, v) => t.setIfInBounds p v) tmps, defers := ds }
  | [], xs, e, tmps, ds, h, _ => h
  | p :: ps, [], e, tmps, ds, h, _ => h
  | p :: ps, x :: xs, e, tmps, ds, h, hp => by
    have h1 : Rel N (e.put p x) { tmps := tmps.setIfInBounds p x, defers := ds } := Rel.put h (d := some p) (fun t ht => by cases ht; exact hp p (by simp)) x
    exact putP_rel ps xs _ _ ds h1 fun q hq => hp q (by simp [hq])

theorem wr_seq_l {x y : Code} : ∀ t ∈ wr x, t ∈ wr (.seq x y) := fun t ht => List.mem_append_left _ ht
theorem run_callSem_yield {P : Program} {w : World} {l : Nat} {r : Loop} {xs : List Value} (h : w.heap[l]? = some (.loop r)) (hs : xs.length = r.params.size) :
    (callSem (.func (.yield l) #[] #[]) xs.toArray).run P w = .ok (.round l r.fn ((r.params.zip xs.toArray).foldl (fun tmps (t, a) => tmps.setIfInBounds t a) r.tmps) r.assign r.body) w := by
  have := run_yield (P := P) (args := xs.toArray) h (by simpa using hs)
  simp [callSem, Deferred.ofValue, invoke, callFunc, this]
theorem decL_len {R : Type} : ∀ {ls : List Lf} {vs : List Value} {K : curL ls R} {fin : R → Prop}, decL ls vs K fin → vs.length = ls.length
  | [], [], _, _, _ => rfl
  | [], _ :: _, _, _, h => h.elim
  | _ :: _, [], _, _, h => h.elim
  | l :: ls, v :: vs, K, fin, h => by
    obtain ⟨x, rfl, hx⟩ := Lf.dec_imp h
    simp [decL_len hx]
theorem evR_sound {P : Program} {c : Cfg} (hro : c.ro = none) : ∀ (code : Code) (an : Ann) (e : Tr) (ds : List Nat) (a : Act) (w : World) (Q : Exit → Tr → List Nat → World → Prop) (Q' : Exit → Act → World → Prop),
    evR P c code an e ds w Q → Rel c.N e a → a.defers = ds.map mark → (∀ ex e' ds' a' w', Rel c.N e' a' → AgreeT (wr code) a a' → a'.defers = ds'.map mark → Q ex e' ds' w' → Q' ex a' w') → code.wpIn (Fw none) 0 P Q' a w := by
  have plain : ∀ (code : Code) (an : Ann) (e : Tr) (ds : List Nat) (a : Act) (w : World) (Q : Exit → Tr → List Nat → World → Prop) (Q' : Exit → Act → World → Prop),
      (ev P c code an e w fun ex e' w' => Q ex e' ds w') → Rel c.N e a → a.defers = ds.map mark → (∀ ex e' ds' a' w', Rel c.N e' a' → AgreeT (wr code) a a' → a'.defers = ds'.map mark → Q ex e' ds' w' → Q' ex a' w') → code.wpIn (Fw none) 0 P Q' a w := by
    intro code an e ds a w Q Q' h hrel hd hk
    have := ev_sound (c := c) code an e a w _ Q' h hrel fun ex e' a' w' hr hag hq => hk ex e' ds a' w' hr hag.toT (hag.defers.trans hd) hq
    rwa [hro] at this
  intro code
  induction code with
  | seq x y ihx ihy =>
    intro an e ds a w Q Q' h hrel hd hk
    simp only [evR] at h
    split at h
    · exact plain _ an e ds a w Q Q' h hrel hd hk
    · refine wpIn_seq (ihx _ _ _ _ _ _ _ h hrel hd ?_)
      intro ex e' ds' a' w' hr hag hd' hq
      cases ex with
      | normal =>
        refine ihy _ _ _ _ _ _ _ hq hr hd' fun ex e2 ds2 a2 w2 hr2 hag2 hd2 hq2 => hk ex e2 ds2 a2 w2 hr2 (hag.trans hag2 (fun t ht => List.mem_append_left _ ht) (fun t ht => List.mem_append_right _ ht)) hd2 hq2
      | exit id => exact hk _ _ _ _ _ hr (hag.mono fun t ht => List.mem_append_left _ ht) hd' hq
      | goto l => exact hk _ _ _ _ _ hr (hag.mono fun t ht => List.mem_append_left _ ht) hd' hq
      | ret => exact hk _ _ _ _ _ hr (hag.mono fun t ht => List.mem_append_left _ ht) hd' hq
      | panic ch => exact hk _ _ _ _ _ hr (hag.mono fun t ht => List.mem_append_left _ ht) hd' hq
      | outgrown => exact hk _ _ _ _ _ hr (hag.mono fun t ht => List.mem_append_left _ ht) hd' hq
  | block id x ih =>
    intro an e ds a w Q Q' h hrel hd hk
    simp only [evR] at h
    split at h
    · exact plain _ an e ds a w Q Q' h hrel hd hk
    · refine wpIn_block (ih _ _ _ _ _ _ _ h hrel hd ?_)
      intro ex e' ds' a' w' hr hag hd' hq
      cases ex with
      | exit i =>
        simp only [blockD] at hq
        split at hq
        · rename_i hb
          have := Nat.eq_of_beq_eq_true hb
          subst this
          simp only [Exit.inBlock, if_true]
          exact hk _ _ _ _ _ hr hag hd' hq
        · rename_i hb
          have hne : i ≠ id := fun h => by subst h; simp at hb
          simp only [Exit.inBlock, hne, if_false]
          exact hk _ _ _ _ _ hr hag hd' hq
      | normal => exact hk _ _ _ _ _ hr hag hd' hq
      | goto l => exact hk _ _ _ _ _ hr hag hd' hq
      | ret => exact hk _ _ _ _ _ hr hag hd' hq
      | panic ch => exact hk _ _ _ _ _ hr hag hd' hq
      | outgrown => exact hk _ _ _ _ _ hr hag hd' hq
  | loop x ih =>
    intro an e ds a w Q Q' h hrel hd hk
    simp only [evR] at h
    split at h
    · exact plain _ an e ds a w Q Q' h hrel hd hk
    · split at h
      · rename_i sl an'
        obtain ⟨s0, hl, hp0⟩ := decSl_put hrel h
        obtain ⟨I, μ, hI, hstep⟩ := hl
        refine wpIn_loopN (fun j a1 w1 => ∃ s : Tup sl × List Nat, μ s w1 = j ∧ I s w1 ∧ AgreeT (wr x) a a1 ∧ Rel c.N (putSl sl s.1 (e.delL (wr x))) a1 ∧ a1.defers = s.2.map mark) (j₀ := μ (s0, ds) w) ?_ ?_
        · exact ⟨(s0, ds), rfl, hI, AgreeT.refl _ _, hp0 _ (hrel.delT (AgreeT.refl _ _)), hd⟩
        · rintro j a1 w1 ⟨s, rfl, hIs, hag1, hr1, hd1⟩
          refine ih _ _ _ _ _ _ _ (hstep s w1 hIs) hr1 hd1 ?_
          intro ex e' ds' a' w' hr hag hd' hq
          have hag' : AgreeT (wr x) a a' := hag1.trans hag (fun t ht => ht) (fun t ht => ht)
          cases ex with
          | normal =>
            obtain ⟨s', hq', hp'⟩ := decSl_put hr hq
            exact ⟨_, hq'.2, (s', ds'), rfl, hq'.1, hag', hp' _ (hrel.delT hag'), hd'⟩
          | exit id => exact hk _ _ _ _ _ hr hag' hd' hq
          | goto l => exact hk _ _ _ _ _ hr hag' hd' hq
          | ret => exact hk _ _ _ _ _ hr hag' hd' hq
          | panic ch => exact hk _ _ _ _ _ hr hag' hd' hq
          | outgrown => exact hk _ _ _ _ _ hr hag' hd' hq
      · exact h.elim
  | rangeFunc g ps assign body iha ihb =>
    intro an e ds a w Q Q' h hrel hd hk
    simp only [evR] at h
    split at h
    case h_2 => exact h.elim
    rename_i sl a1 b1
    split at h
    · rename_i v hv hps hsz
      obtain ⟨gf, lb, rfl, heg, hall⟩ := h
      have hg := hrel.op hv
      refine wpIn_rangeFunc fun fn hfn => ?_
      obtain ⟨rec, hrec⟩ : ∃ rec : LoopState → Option Code → Loop, rec = fun st pe => { state := st, pending := pe, fn, tmps := a.tmps, params := ps, assign, body, defers := w.heap.size } := ⟨_, rfl⟩
      obtain ⟨W1, hW1⟩ : ∃ W1, (w.alloc (.deferred (some []))).alloc (.loop (rec .ready none)) = W1 := ⟨_, rfl⟩
      have hL1 : W1.heap[w.heap.size + 1]? = some (.loop (rec .ready none)) := by
        rw [← hW1]; have := World.alloc_heap_new (w.alloc (.deferred (some []))) (.loop (rec .ready none)); rwa [World.size_alloc] at this
      have hK1 : W1.heap[w.heap.size]? = some (.deferred (some [])) := by
        rw [← hW1]; exact (RowKit.Below.heap_alloc _ _ _ (by simp)).trans (World.alloc_heap_new w _)
      have hE1 : Ext w W1 := by rw [← hW1]; exact (Ext.alloc _ _).trans (Ext.alloc _ _)
      refine ⟨w.heap.size + 1, [mark w.heap.size], W1, { target := .fn (.func gf) lb, args := #[.func (.yield (w.heap.size + 1)) #[] #[]] }, W1, gf,
        #[.func (.yield (w.heap.size + 1)) #[] #[]] ++ lb, W1, ?_, ?_, fun f' _ => trivial, ?_, fun h => by simp [Fw] at h, ?_⟩
      · rw [← hW1, hrec]; exact run_enterLoop_outer _ _ _ _ _
      · simp only [resolve, hg]
        simp [go_sem]
      · simp [invoke, go_sem, heg]
      · have hc := hall (w.heap.size + 1) w.heap.size (.loop (rec .ready none)) (.loop (rec .busy none)) W1 hE1 (by omega) (by omega) (by omega) hL1 hK1 ?_
        · refine callsIn_fw (Calls.mono hc fun en w' hR => ?_)
          cases en with
          | returned v =>
            simp only [callR, decR] at hR
            split at hR
            · split at hR
              · obtain ⟨hl, hKx⟩ := hR
                refine ⟨none, w'.putObj (w.heap.size + 1) (.loop (rec .exhausted none)), ?_, ?_⟩
                · have := run_endLoop (P := P) hl (by rw [hrec]; intro h; cases h)
                  rw [this, hrec]
                · exact hk .normal e (w.heap.size :: ds) _ _ (hrel.defers _) ⟨rfl, fun _ _ => rfl⟩ (by simp [hd]) (hKx _)
              · exact hR.elim
            · exact hR.elim
          | panicked ch => exact hR.elim
          | outgrown => exact hR.elim
        · intro xs W R hl hb
          have hlen' : xs.length = ps.size := by
            have h1 := decL_len hb
            have h2 := Nat.eq_of_beq_eq_true hsz
            rw [h1, List.length_map, h2]
          have hb := decL_mk hb
          · refine .inr ⟨_, _, _, _, _, run_callSem_yield hl (by rw [hrec]; exact hlen'), ?_⟩
            refine roundIn_of_wpIn trivial ?_
            have hps' : ∀ p ∈ ps.toList, p < c.N := fun p hp => by
              have := List.all_eq_true.1 hps p hp
              rwa [Nat.blt_eq] at this
            have hrel1 : Rel c.N (putP ps.toList xs e) { tmps := (ps.zip xs.toArray).foldl (fun tmps (t, a) => tmps.setIfInBounds t a) a.tmps, defers := [] } := by
              have := putP_rel ps.toList xs e a.tmps [] (hrel.defers []) hps'
              have e1 : (ps.zip xs.toArray).foldl (fun tmps (t, a) => tmps.setIfInBounds t a) a.tmps = (ps.toList.zip xs).foldl (fun t (p, v) => t.setIfInBounds p v) a.tmps := by
                rw [← Array.foldl_toList]; simp
              rw [e1]; exact this
            have hfw : (Fw none).inRound (w.heap.size + 1) = Fw (some (w.heap.size + 1)) := rfl
            rw [hfw]
            have h1 := ev_sound (c := ⟨c.N, some (w.heap.size + 1), c.fv⟩) assign a1 _ { tmps := (ps.zip xs.toArray).foldl (fun tmps (t, a) => tmps.setIfInBounds t a) a.tmps, defers := [] } W _
              (Exit.then (fun a₁ w₁ => ∃ w₂, (Instr.beginRound (w.heap.size + 1)).run P w₁ = .ok () w₂ ∧ body.wpIn (Fw (some (w.heap.size + 1))) 0 P (roundPost P (w.heap.size + 1) (callR [.one .bool] R)) a₁ w₂) (fun _ _ _ => False)) hb hrel1 ?_
            · rw [hrec]; exact h1
            · intro ex e' a' w' hr hag hq
              cases ex with
              | normal =>
                obtain ⟨hl', hb'⟩ := hq
                refine ⟨w'.putObj (w.heap.size + 1) (.loop (rec .busy none)), ?_, ?_⟩
                · have := run_beginRound (P := P) hl' (by rw [hrec])
                  rw [this, hrec]
                · refine ev_sound (c := ⟨c.N, some (w.heap.size + 1), c.fv⟩) body b1 _ a' _ _ _ hb' hr ?_
                  intro ex2 e2 a2 w3 hr2 hag2 hq2
                  cases ex2 with
                  | normal =>
                    obtain ⟨hl3, hR3⟩ := hq2
                    refine ⟨.bool true, w3.putObj (w.heap.size + 1) (.loop (rec .ready none)), ?_, hR3⟩
                    have := run_endRound (P := P) none hl3
                    rw [this, hrec]; rfl
                  | exit id => exact hq2.elim
                  | goto l => exact hq2.elim
                  | ret => exact hq2.elim
                  | panic ch => exact hq2.elim
                  | outgrown => exact hq2.elim
              | exit id => exact hq.elim
              | goto l => exact hq.elim
              | ret => exact hq.elim
              | panic ch => exact hq.elim
              | outgrown => exact hq.elim
    · exact h.elim
  | _ => intro an e ds a w Q Q' h hrel hd hk; exact plain _ an e ds a w Q Q' (by simpa only [evR] using h) hrel hd hk

/-! ### functions -/
/-- At the function's end each mark is taken up: its block bears no calls. -/
def finD : List Nat → (World → Prop) → World → Prop
  | [], k, w => k w
  | D :: ds, k, w => w.heap[D]? = some (.deferred (some [])) ∧ finD ds k (w.putObj D (.deferred none))
def finM (P : Program) (fn : Func) (ts : List Ty) (K : curTs ts (World → Prop)) (ds : List Nat) (ex : Exit) (e : Tr) (w : World) : Prop := finD ds (fun w => finQ P fn ts K ex e w) w
theorem leaves_marks {P : Program} {fn : Func} {ts : List Ty} {K : curTs ts (World → Prop)} {N : Nat} {e : Tr} {a : Act} (hrel : Rel N e a) {ex : Exit} (hex : ex = .normal ∨ ex = .ret) : ∀ (ds : List Nat) (w : World), finM P fn ts K ds ex e w →
    LeavesInM (Fw none) 0 P fn a.tmps (callR ts K) (ds.map mark) .returning w
  | [], w, h => by
    have h' : resVals P fn.results.toList e w fun vs => match vs with
        | [v] => decR ts v K fun r => r w
        | vs => decR ts (.tuple vs.toArray) K fun r => r w := by rcases hex with rfl | rfl <;> exact h
    obtain ⟨v, h1, h2⟩ := results_run hrel h'
    exact ⟨v, h1, h2⟩
  | D :: ds, w, h => by
    refine ⟨(by intro h; cases h), .inl ⟨D, w.putObj D (.deferred none), rfl, run_takeDeferred h.1, ?_⟩⟩
    exact leaves_marks hrel hex ds _ h.2
theorem finM_exit {P : Program} {fn : Func} {ts : List Ty} {K : curTs ts (World → Prop)} {ex : Exit} {e : Tr} (hex : ¬ (ex = .normal ∨ ex = .ret)) : ∀ (ds : List Nat) (w : World), ¬ finM P fn ts K ds ex e w
  | [], w, h => by
    cases ex <;> first | exact hex (.inl rfl) | exact hex (.inr rfl) | exact h
  | D :: ds, w, h => finM_exit hex ds _ h.2
/-- A function, from its body. -/
theorem calls_of_evR {P : Program} {f : FuncId} {fn : Func} {code : Code} {args : List Value} {ts : List Ty} {K : curTs ts (World → Prop)} {w : World} (fv : List Tmp) (an : Ann)
    (hf : P.funcs[f]? = some fn) (hb : fn.body = some code) (hN : Nat.ble args.length fn.ntmps = true)
    (h : evR P ⟨fn.ntmps, none, fv⟩ code an (env0 0 args) [] w (fun ex e ds w => finM P fn ts K ds ex e w)) : callS P f args.toArray ts K w := by
  unfold callS
  refine (callsIn_wide (n := 0)).1 (callsIn_of_wp_marks hf hb trivial ?_ rfl)
  refine evR_sound (c := ⟨fn.ntmps, none, fv⟩) rfl code an _ [] _ w _ _ h (rel_env0 (Nat.le_of_ble_eq_true hN)) rfl fun ex e' ds' a' w' hr hag hd hq => ?_
  by_cases hex : ex = .normal ∨ ex = .ret
  · have := leaves_marks hr hex ds' w' hq
    rw [← hd] at this
    rcases hex with rfl | rfl <;> exact this
  · exact absurd hq (finM_exit hex ds' w')
/-- What a function that ranges over a function comes to, by its body. -/
def evFnR (P : Program) (fn : Func) (fv : List Tmp) (an : Ann) (args : List Value) (ts : List Ty) (K : curTs ts (World → Prop)) (w : World) : Prop :=
  match fn.body with
  | some code => evR P ⟨fn.ntmps, none, fv⟩ code an (env0 0 args) [] w (fun ex e ds w => finM P fn ts K ds ex e w)
  | none => False
theorem calls_of_fnR {P : Program} {f : FuncId} (fn : Func) {args : List Value} {ts : List Ty} {K : curTs ts (World → Prop)} {w : World} (fv : List Tmp) (an : Ann)
    (hf : P.funcs[f]? = some fn) (hN : Nat.ble args.length fn.ntmps = true) (h : evFnR P fn fv an args ts K w) : callS P f args.toArray ts K w := by
  unfold evFnR at h
  split at h
  · rename_i code hb; exact calls_of_evR fv an hf hb hN h
  · exact h.elim
end Go.Eng
