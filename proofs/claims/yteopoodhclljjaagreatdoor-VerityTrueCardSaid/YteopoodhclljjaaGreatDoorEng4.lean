/- The engine, fourth part: code, loops, functions. -/
import Derived.Test.YteopoodhclljjaaGreatDoorEng3
set_option linter.unusedSimpArgs false
set_option linter.unusedVariables false
namespace Go.Eng
open Go

def wr : Code → List Tmp
  | .region _ ops _ => dsts ops.toList
  | .seq a b => wr a ++ wr b
  | .cond _ a b => wr a ++ wr b
  | .block _ c => wr c
  | .loop c => wr c
  | .scope c => wr c
  | .rangeFunc _ ps a b => ps.toList ++ (wr a ++ wr b)
  | _ => []

abbrev Tup : List (Nat × Lf) → Type
  | [] => Unit
  | [(_, l)] => l.T
  | (_, l) :: s :: ss => l.T × Tup (s :: ss)
def decSl : (sl : List (Nat × Lf)) → Tr → (Tup sl → Prop) → Prop
  | [], _, K => K ()
  | [(t, l)], e, K => match e.get t with
    | some v => l.dec v K
    | none => False
  | (t, l) :: s :: ss, e, K => match e.get t with
    | some v => l.dec v fun x => decSl (s :: ss) e fun y => K (x, y)
    | none => False
def putSl : (sl : List (Nat × Lf)) → Tup sl → Tr → Tr
  | [], _, e => e
  | [(t, l)], x, e => e.put t (l.enc x)
  | (t, l) :: s :: ss, xy, e => putSl (s :: ss) xy.2 (e.put t (l.enc xy.1))
theorem decSl_put {N : Nat} {e : Tr} {a : Act} (hr : Rel N e a) : ∀ {sl : List (Nat × Lf)} {K : Tup sl → Prop}, decSl sl e K → ∃ s, K s ∧ ∀ e0, Rel N e0 a → Rel N (putSl sl s e0) a
  | [], K, h => ⟨(), h, fun _ h => h⟩
  | [(t, l)], K, h => by
    simp only [decSl] at h
    split at h
    · rename_i v hv
      obtain ⟨x, rfl, hx⟩ := Lf.dec_imp h
      exact ⟨x, hx, fun e0 h0 => h0.put_same (hr.get _ _ hv)⟩
    · exact h.elim
  | (t, l) :: s :: ss, K, h => by
    simp only [decSl] at h
    split at h
    · rename_i v hv
      obtain ⟨x, rfl, hx⟩ := Lf.dec_imp h
      obtain ⟨y, hy, hp⟩ := decSl_put hr hx
      exact ⟨(x, y), hy, fun e0 h0 => hp _ (h0.put_same (hr.get _ _ hv))⟩
    · exact h.elim

inductive Ann where
  | nil
  | two (a b : Ann)
  | join (sl : List (Nat × Lf)) (a b : Ann)
  | loop (sl : List (Nat × Lf)) (a : Ann)
  | one (a : Ann)
  | draw (masks : List Nat)
def Ann.l : Ann → Ann
  | .two a _ => a
  | .join _ a _ => a
  | .loop _ a => a
  | .one a => a
  | _ => .nil
def Ann.r : Ann → Ann
  | .two _ b => b
  | .join _ _ b => b
  | _ => .nil
def Ann.masks : Ann → List Nat
  | .draw m => m
  | _ => []

def thenE (next : Tr → World → Prop) (Q : Exit → Tr → World → Prop) : Exit → Tr → World → Prop
  | .normal, e, w => next e w
  | ex, e, w => Q ex e w
def blockE (id : Nat) (Q : Exit → Tr → World → Prop) : Exit → Tr → World → Prop
  | .exit i, e, w => match Nat.beq i id with | true => Q .normal e w | false => Q (.exit i) e w
  | ex, e, w => Q ex e w
def gotoE (l : Nat) (again : Tr → World → Prop) (Q : Exit → Tr → World → Prop) : Exit → Tr → World → Prop
  | .goto i, e, w => match Nat.beq i l with | true => again e w | false => False
  | ex, e, w => Q ex e w

def ev (P : Program) (c : Cfg) : Code → Ann → Tr → World → (Exit → Tr → World → Prop) → Prop
  | .skip, _, e, w, Q => Q .normal e w
  | .label _, _, e, w, Q => Q .normal e w
  | .exit id, _, e, w, Q => Q (.exit id) e w
  | .goto l, _, e, w, Q => Q (.goto l) e w
  | .ret, _, e, w, Q => Q .ret e w
  | .region _ ops draw, an, e, w, Q => match draw with
    | false => evOps P c ops (ops.size + ops.size + 2) [] ops.toList e w fun e' w' => Q .normal e' w'
    | true => evDraw P c ops an.masks e w fun e' w' => Q .normal e' w'
  | .seq x y, an, e, w, Q => match an with
    | .join sl a b => joinS (fun (s : Tup sl) w' => ev P c y b (putSl sl s (e.delL (wr x))) w' Q) fun J => ev P c x a e w (thenE (fun e' w' => decSl sl e' fun s => J s w') Q)
    | an => ev P c x an.l e w (thenE (fun e' w' => ev P c y an.r e' w' Q) Q)
  | .cond x t f, an, e, w, Q => match e.op x with
    | some (.bool b) => cond b (ev P c t an.l e w Q) (ev P c f an.r e w Q)
    | _ => False
  | .block id x, an, e, w, Q => ev P c x an.l e w (blockE id Q)
  | .loop x, an, e, w, Q => match an with
    | .loop sl a => decSl sl e fun s0 => loopS (fun (s : Tup sl) w' again => ev P c x a (putSl sl s (e.delL (wr x))) w' (thenE (fun e' w'' => decSl sl e' fun s' => again s' w'') Q)) s0 w
    | _ => False
  | _, _, _, _, _ => False

section
variable {F : Fence} {n : Nat} {P : Program} {Q : Exit → Act → World → Prop} {a : Act} {w : World}
theorem wpIn_loopN {c : Code} (I : Nat → Act → World → Prop) {j₀ : Nat} (h₀ : I j₀ a w)
    (round : ∀ j a w, I j a w → c.wpIn F n P (Exit.then (fun a' w' => ∃ j', j' < j ∧ I j' a' w') Q) a w) : (Code.loop c).wpIn F n P Q a w := by
  intro b k cs hro hb hr
  have key : ∀ j a w, I j a w →
      ∃ e a' w', Q e a' w' ∧ ArrivesIn (Machine.fenced P F) P (lone (b.atR a (.code c :: .inLoop c :: k)) cs w) b k cs e a' w' := by
    intro j
    induction j using Nat.strongRecOn with
    | _ j ih =>
      intro a w hI
      obtain ⟨e, a₁, w₁, hq, harr⟩ := round j a w hI b (.inLoop c :: k) cs hro hb hr
      cases e with
      | normal =>
        obtain ⟨j', hlt, hI₁⟩ := hq
        obtain ⟨e₂, a₂, w₂, hq₂, harr₂⟩ := ih j' hlt a₁ w₁ hI₁
        exact ⟨e₂, a₂, w₂, hq₂, .of_steps (StepsIn.trans harr (.one (fenced_calm hb hr rfl) stepR_inLoop)) harr₂⟩
      | exit id => exact ⟨_, a₁, w₁, hq, .pass (x := .inLoop c) rfl (fun _ _ => .inl (by simp)) harr⟩
      | goto l => exact ⟨_, a₁, w₁, hq, .pass (x := .inLoop c) rfl (fun _ _ => .inl (by simp)) harr⟩
      | ret => exact ⟨_, a₁, w₁, hq, .pass (x := .inLoop c) rfl (fun _ _ => .inl (by simp)) harr⟩
      | panic ch => exact ⟨_, a₁, w₁, hq, .pass (x := .inLoop c) rfl (fun _ _ => .inl (by simp)) harr⟩
      | outgrown => exact ⟨_, a₁, w₁, hq, .pass (x := .inLoop c) rfl (fun _ _ => .inl (by simp)) harr⟩
  obtain ⟨e, a', w', hq, harr⟩ := key j₀ a w h₀
  exact ⟨e, a', w', hq, .of_steps (.one (fenced_calm hb hr rfl) stepR_loop) harr⟩
end

theorem ev_sound {P : Program} {c : Cfg} : ∀ (code : Code) (an : Ann) (e : Tr) (a : Act) (w : World) (Q : Exit → Tr → World → Prop) (Q' : Exit → Act → World → Prop),
    ev P c code an e w Q → Rel c.N e a → (∀ ex e' a' w', Rel c.N e' a' → Agree (wr code) a a' → Q ex e' w' → Q' ex a' w') → code.wpIn (Fw c.ro) 0 P Q' a w := by
  intro code
  induction code with
  | skip => intro an e a w Q Q' h hrel hk; exact wpIn_skip (hk _ _ _ _ hrel (Agree.refl _ _) h)
  | label l => intro an e a w Q Q' h hrel hk; exact wpIn_label (hk _ _ _ _ hrel (Agree.refl _ _) h)
  | exit id => intro an e a w Q Q' h hrel hk; exact wpIn_exit (hk _ _ _ _ hrel (Agree.refl _ _) h)
  | goto l => intro an e a w Q Q' h hrel hk; exact wpIn_goto (hk _ _ _ _ hrel (Agree.refl _ _) h)
  | ret => intro an e a w Q Q' h hrel hk; exact wpIn_ret (hk _ _ _ _ hrel (Agree.refl _ _) h)
  | region id ops draw =>
    intro an e a w Q Q' h hrel hk
    cases draw with
    | false =>
      refine wpIn_region_list ?_
      have := evOps_sound (Q := Q') (ops.size + ops.size + 2) [] ops.toList e a w _ [] h hrel fun e' a' w' hr hag hK => hk _ _ _ _ hr hag hK
      simpa using this
    | true =>
      simp only [ev, evDraw] at h
      split at h
      · rename_i hro hok
        obtain ⟨C, hC, h⟩ := h
        simp only [drawOk, Bool.and_eq_true] at hok
        obtain ⟨⟨⟨h1, h2⟩, h3⟩, h4⟩ := hok
        rw [hro, Fw_none]
        refine wpIn_wide.2 ?_
        refine wp_mono (Q := fun ex a' w' => ex = .normal ∧ Q' .normal a' w') ?_ (fun ex a' w' hq => by rw [hq.1]; exact hq.2)
        refine wp_region_any h1 (wpAny_of_C (c := c) (masks := an.masks) _ C _ _ _ ?_)
        refine evD_sound h2 (Region.noSelect_spec h3) h4 (fun ch a w hq => by cases hq.1) (fun a w hq => by cases hq.1) _ C [] _ e a _ _ _ h hrel ?_ ?_ ?_ ?_
        · intro j o ho hl
          by_cases hj : j < ops.size <;> simp [Array.getElem?_replicate, hj] at hl
        · intro k o _ _ _; exact hC
        · simp [left]
        · intro e' a' w' hr hag hK; exact ⟨rfl, hk _ _ _ _ hr hag hK⟩
      · exact h.elim
  | seq x y ihx ihy =>
    intro an e a w Q Q' h hrel hk
    refine wpIn_seq ?_
    have plain : ∀ al ar, ev P c x al e w (thenE (fun e' w' => ev P c y ar e' w' Q) Q) → x.wpIn (Fw c.ro) 0 P (Exit.then (y.wpIn (Fw c.ro) 0 P Q') Q') a w := by
      intro al ar h
      refine ihx al e a w _ _ h hrel fun ex e' a' w' hr hag hq => ?_
      have hag' : Agree (wr (.seq x y)) a a' := hag.mono fun t ht => List.mem_append_left _ ht
      cases ex with
      | normal => exact ihy ar e' a' w' Q Q' hq hr fun ex e'' a'' w'' hr' hag2 hq' => hk _ _ _ _ hr' (hag.trans hag2) hq'
      | exit id => exact hk _ _ _ _ hr hag' hq
      | goto l => exact hk _ _ _ _ hr hag' hq
      | ret => exact hk _ _ _ _ hr hag' hq
      | panic ch => exact hk _ _ _ _ hr hag' hq
      | outgrown => exact hk _ _ _ _ hr hag' hq
    cases an with
    | join sl al ar =>
      have h' : ev P c x al e w (thenE (fun e' w' => decSl sl e' fun s => ev P c y ar (putSl sl s (e.delL (wr x))) w' Q) Q) := h
      refine ihx al e a w _ _ h' hrel fun ex e' a' w' hr hag hq => ?_
      have hag' : Agree (wr (.seq x y)) a a' := hag.mono fun t ht => List.mem_append_left _ ht
      cases ex with
      | normal =>
        obtain ⟨s, hs, hp⟩ := decSl_put hr hq
        exact ihy ar _ a' w' Q Q' hs (hp _ (hrel.delL hag)) fun ex e'' a'' w'' hr' hag2 hq' => hk _ _ _ _ hr' (hag.trans hag2) hq'
      | exit id => exact hk _ _ _ _ hr hag' hq
      | goto l => exact hk _ _ _ _ hr hag' hq
      | ret => exact hk _ _ _ _ hr hag' hq
      | panic ch => exact hk _ _ _ _ hr hag' hq
      | outgrown => exact hk _ _ _ _ hr hag' hq
    | nil => exact plain _ _ h
    | two al ar => exact plain _ _ h
    | loop sl al => exact plain _ _ h
    | one al => exact plain _ _ h
    | draw m => exact plain _ _ h
  | cond x t f iht ihf =>
    intro an e a w Q Q' h hrel hk
    simp only [ev] at h
    split at h
    · rename_i b hb
      have he := hrel.op hb
      cases b with
      | true => exact wpIn_cond_true he (iht _ e a w Q Q' h hrel fun ex e' a' w' hr hag hq => hk _ _ _ _ hr (hag.mono fun t ht => List.mem_append_left _ ht) hq)
      | false => exact wpIn_cond_false he (ihf _ e a w Q Q' h hrel fun ex e' a' w' hr hag hq => hk _ _ _ _ hr (hag.mono fun t ht => List.mem_append_right _ ht) hq)
    · exact h.elim
  | block id x ih =>
    intro an e a w Q Q' h hrel hk
    refine wpIn_block (ih _ e a w _ _ h hrel fun ex e' a' w' hr hag hq => ?_)
    cases ex with
    | exit i =>
      simp only [blockE] at hq
      simp only [Exit.inBlock]
      by_cases hi : i = id
      · subst hi
        have : Nat.beq i i = true := Nat.beq_refl i
        simp only [this] at hq
        simp only [if_true]
        exact hk _ _ _ _ hr hag hq
      · have : Nat.beq i id = false := by cases hb : Nat.beq i id with | false => rfl | true => exact absurd (Nat.eq_of_beq_eq_true hb) hi
        simp only [this] at hq
        simp only [hi, if_false]
        exact hk _ _ _ _ hr hag hq
    | normal => exact hk _ _ _ _ hr hag hq
    | goto l => exact hk _ _ _ _ hr hag hq
    | ret => exact hk _ _ _ _ hr hag hq
    | panic ch => exact hk _ _ _ _ hr hag hq
    | outgrown => exact hk _ _ _ _ hr hag hq
  | scope x ih => intro an e a w Q Q' h; exact h.elim
  | loop x ih =>
    intro an e a w Q Q' h hrel hk
    cases an with
    | loop sl al =>
      obtain ⟨s0, h0, hp0⟩ := decSl_put hrel h
      obtain ⟨I, μ, hI, hround⟩ := h0
      refine wpIn_loopN (fun j a1 w1 => ∃ s, μ s w1 = j ∧ I s w1 ∧ Agree (wr x) a a1 ∧ Rel c.N (putSl sl s (e.delL (wr x))) a1) (j₀ := μ s0 w) ?_ ?_
      · exact ⟨s0, rfl, hI, Agree.refl _ _, hp0 _ (hrel.delL (Agree.refl _ _))⟩
      · rintro j a1 w1 ⟨s, rfl, hI1, hag1, hr1⟩
        refine ih al _ a1 w1 _ _ (hround s w1 hI1) hr1 fun ex e' a' w' hr hag hq => ?_
        have hag' : Agree (wr (.loop x)) a a' := (hag1.trans hag).mono fun t ht => by
          rcases List.mem_append.1 ht with h | h <;> exact h
        cases ex with
        | normal =>
          obtain ⟨s', ⟨hs', hlt⟩, hp⟩ := decSl_put hr hq
          exact ⟨_, hlt, s', rfl, hs', hag', hp _ (hrel.delL hag')⟩
        | exit id => exact hk _ _ _ _ hr hag' hq
        | goto l => exact hk _ _ _ _ hr hag' hq
        | ret => exact hk _ _ _ _ hr hag' hq
        | panic ch => exact hk _ _ _ _ hr hag' hq
        | outgrown => exact hk _ _ _ _ hr hag' hq
    | nil => exact h.elim
    | two _ _ => exact h.elim
    | join _ _ _ => exact h.elim
    | one _ => exact h.elim
    | draw _ => exact h.elim
  | rangeFunc f ps as b iha ihb => intro an e a w Q Q' h; exact h.elim
  | refuse why => intro an e a w Q Q' h; exact h.elim

/-! ### a scope with one label that is jumped back to -/
/-- Statements ahead of the label, the label, what follows. -/
def splitLab : Code → Option (List Code × Nat × Code)
  | .seq x y => match x with
    | .label l => some ([], l, y)
    | x => match splitLab y with
      | some (p, l, r) => some (x :: p, l, r)
      | none => none
  | _ => none
def evSeq (P : Program) (c : Cfg) : List Code → List Ann → Tr → World → (Exit → Tr → World → Prop) → Prop
  | [], _, e, w, Q => Q .normal e w
  | x :: xs, an, e, w, Q => ev P c x (match an with | a :: _ => a | [] => .nil) e w (thenE (fun e' w' => evSeq P c xs an.tail e' w' Q) Q)
def isLabel : Code → Bool
  | .label _ => true
  | .seq _ _ => true
  | _ => false
/-- Ahead of the label a body may only go on, or return. -/
def retE (Q : Exit → Tr → World → Prop) : Exit → Tr → World → Prop
  | .ret, e, w => Q .ret e w
  | _, _, _ => False
/-- A whole body that is a scope: pre; label; rest, where rest jumps back to the label. -/
def evScope (P : Program) (c : Cfg) (body : Code) (sl : List (Nat × Lf)) (pre : List Ann) (an : Ann) (e : Tr) (w : World) (Q : Exit → Tr → World → Prop) : Prop :=
  match splitLab body with
  | none => False
  | some (p, l, r) => match p.any isLabel with
    | true => False
    | false => evSeq P c p pre e w (thenE (fun e' w' => decSl sl e' fun s0 => loopS (fun (s : Tup sl) w'' again => ev P c r an (putSl sl s (e'.delL (wr r))) w'' (gotoE l (fun e'' w3 => decSl sl e'' fun s' => again s' w3) Q)) s0 w') (retE Q))

theorem splitLab_find : ∀ {x : Code} {p : List Code} {l : Nat} {r : Code}, splitLab x = some (p, l, r) → p.any isLabel = false → findLabel x l = some (.seq .skip r)
  | .seq x y, p, l, r, h, hp => by
    simp only [splitLab] at h
    split at h
    · simp at h; obtain ⟨rfl, rfl, rfl⟩ := h; simp [findLabel]
    · rename_i hx
      split at h
      · rename_i p' l' r' hy
        simp at h; obtain ⟨rfl, rfl, rfl⟩ := h
        simp only [List.any_cons, Bool.or_eq_false_iff] at hp
        have hn : findLabel x l' = none := by
          cases x <;> simp [findLabel, isLabel] at hp ⊢
        simp [findLabel, hn, splitLab_find hy hp.2]
      · cases h
  | .skip, _, _, _, h, _ => by simp [splitLab] at h
  | .region .., _, _, _, h, _ => by simp [splitLab] at h
  | .cond .., _, _, _, h, _ => by simp [splitLab] at h
  | .block .., _, _, _, h, _ => by simp [splitLab] at h
  | .loop .., _, _, _, h, _ => by simp [splitLab] at h
  | .rangeFunc .., _, _, _, h, _ => by simp [splitLab] at h
  | .exit .., _, _, _, h, _ => by simp [splitLab] at h
  | .scope .., _, _, _, h, _ => by simp [splitLab] at h
  | .label .., _, _, _, h, _ => by simp [splitLab] at h
  | .goto .., _, _, _, h, _ => by simp [splitLab] at h
  | .ret, _, _, _, h, _ => by simp [splitLab] at h
  | .refuse .., _, _, _, h, _ => by simp [splitLab] at h

section
variable {F : Fence} {n : Nat} {P : Program} {Q : Exit → Act → World → Prop}
/-- Where the jumps of a scope's body to its label arrive. -/
theorem wpIn_scope_goto {x r : Code} {l : Nat} (hf : findLabel x l = some r) (I : Nat → Act → World → Prop) {a : Act} {w : World}
    (h : x.wpIn F n P (fun ex a' w' => match ex with | .goto i => i = l ∧ ∃ j, I j a' w' | ex => Q ex a' w') a w)
    (round : ∀ j a w, I j a w → r.wpIn F n P (fun ex a' w' => match ex with | .goto i => i = l ∧ ∃ j', j' < j ∧ I j' a' w' | ex => Q ex a' w') a w) :
    (Code.scope x).wpIn F n P Q a w := by
  intro b k cs hro hb hr
  have hs : ∀ {c : Code} {a : Act} {w : World}, step P (lone (b.atR a (.code (.scope c) :: k)) cs w) = .next (lone (b.atR a (.code c :: .inScope c :: k)) cs w) :=
    fun {c a w} => step_lone_go (by simp [stepG, stepG.exec, Frame.atR])
  have hs' : ∀ {c : Code} {a : Act} {w : World}, step P (lone (b.atR a (.inScope c :: k)) cs w) = .next (lone (b.atR a k) cs w) :=
    fun {c a w} => step_lone_go (by simp [stepG, stepG.exec, Frame.atR])
  -- from any code in the scope's place whose jumps come to I
  have pass : ∀ {c : Code} {a : Act} {w : World} {e : Exit} {a₁ : Act} {w₁ : World}, (∀ i, e ≠ .goto i) → Q e a₁ w₁ → ArrivesIn (Machine.fenced P F) P (lone (b.atR a (.code c :: .inScope x :: k)) cs w) b (.inScope x :: k) cs e a₁ w₁ →
      ∃ e a' w', Q e a' w' ∧ ArrivesIn (Machine.fenced P F) P (lone (b.atR a (.code c :: .inScope x :: k)) cs w) b k cs e a' w' := by
    intro c a w e a₁ w₁ hne hq harr
    cases e with
    | normal => exact ⟨.normal, a₁, w₁, hq, StepsIn.trans harr (.one (fenced_calm hb hr rfl) hs')⟩
    | exit id =>
      have hx : ∀ (k : List Item), exitTo id (.inScope x :: k) = exitTo id k := fun k => by simp [exitTo]
      exact ⟨.exit id, a₁, w₁, hq, ⟨fun k' hk => harr.1 k' (by rw [hx]; exact hk), fun h1 h2 => harr.2 h1 (by rw [hx]; exact h2)⟩⟩
    | goto i => exact absurd rfl (hne i)
    | ret => exact ⟨.ret, a₁, w₁, hq, harr⟩
    | panic ch => exact ⟨.panic ch, a₁, w₁, hq, harr⟩
    | outgrown => exact ⟨.outgrown, a₁, w₁, hq, harr⟩
  have key : ∀ j a w, I j a w → ∃ e a' w', Q e a' w' ∧ ArrivesIn (Machine.fenced P F) P (lone (b.atR a (.code r :: .inScope x :: k)) cs w) b k cs e a' w' := by
    intro j
    induction j using Nat.strongRecOn with
    | _ j ih =>
      intro a w hI
      obtain ⟨e, a₁, w₁, hq, harr⟩ := round j a w hI b (.inScope x :: k) cs hro hb hr
      cases e with
      | goto i =>
        obtain ⟨rfl, j', hlt, hI'⟩ := hq
        obtain ⟨e₂, a₂, w₂, hq₂, harr₂⟩ := ih j' hlt a₁ w₁ hI'
        exact ⟨e₂, a₂, w₂, hq₂, .of_steps (harr.1 _ (by simp [gotoIn, hf])) harr₂⟩
      | normal => exact pass (fun i => by simp) hq harr
      | exit id => exact pass (fun i => by simp) hq harr
      | ret => exact pass (fun i => by simp) hq harr
      | panic ch => exact pass (fun i => by simp) hq harr
      | outgrown => exact pass (fun i => by simp) hq harr
  have h0 : (lone (b.atR a (.code (.scope x) :: k)) cs w).fenced P F := fenced_calm hb hr rfl
  obtain ⟨e, a₁, w₁, hq, harr⟩ := h b (.inScope x :: k) cs hro hb hr
  have fin : ∀ {e a' w'}, ArrivesIn (Machine.fenced P F) P (lone (b.atR a (.code x :: .inScope x :: k)) cs w) b k cs e a' w' → ArrivesIn (Machine.fenced P F) P (lone (b.atR a (.code (.scope x) :: k)) cs w) b k cs e a' w' :=
    fun h => .of_steps (.one h0 hs) h
  cases e with
  | goto i =>
    obtain ⟨rfl, j, hI⟩ := hq
    obtain ⟨e₂, a₂, w₂, hq₂, harr₂⟩ := key j a₁ w₁ hI
    exact ⟨e₂, a₂, w₂, hq₂, fin (.of_steps (harr.1 _ (by simp [gotoIn, hf])) harr₂)⟩
  | normal => obtain ⟨e, a', w', q, h⟩ := pass (fun i => by simp) hq harr; exact ⟨e, a', w', q, fin h⟩
  | exit id => obtain ⟨e, a', w', q, h⟩ := pass (fun i => by simp) hq harr; exact ⟨e, a', w', q, fin h⟩
  | ret => obtain ⟨e, a', w', q, h⟩ := pass (fun i => by simp) hq harr; exact ⟨e, a', w', q, fin h⟩
  | panic ch => obtain ⟨e, a', w', q, h⟩ := pass (fun i => by simp) hq harr; exact ⟨e, a', w', q, fin h⟩
  | outgrown => obtain ⟨e, a', w', q, h⟩ := pass (fun i => by simp) hq harr; exact ⟨e, a', w', q, fin h⟩
end

def wrL : List Code → List Tmp
  | [] => []
  | x :: xs => wr x ++ wrL xs
theorem wr_split : ∀ {x : Code} {p : List Code} {l : Nat} {r : Code}, splitLab x = some (p, l, r) → wr x = wrL p ++ wr r
  | .seq x y, p, l, r, h => by
    simp only [splitLab] at h
    split at h
    · simp at h; obtain ⟨rfl, rfl, rfl⟩ := h; simp [wr, wrL]
    · split at h
      · rename_i p' l' r' hy
        simp at h; obtain ⟨rfl, rfl, rfl⟩ := h
        simp [wr, wrL, wr_split hy]
      · cases h
  | .skip, _, _, _, h => by simp [splitLab] at h
  | .region .., _, _, _, h => by simp [splitLab] at h
  | .cond .., _, _, _, h => by simp [splitLab] at h
  | .block .., _, _, _, h => by simp [splitLab] at h
  | .loop .., _, _, _, h => by simp [splitLab] at h
  | .rangeFunc .., _, _, _, h => by simp [splitLab] at h
  | .exit .., _, _, _, h => by simp [splitLab] at h
  | .scope .., _, _, _, h => by simp [splitLab] at h
  | .label .., _, _, _, h => by simp [splitLab] at h
  | .goto .., _, _, _, h => by simp [splitLab] at h
  | .ret, _, _, _, h => by simp [splitLab] at h
  | .refuse .., _, _, _, h => by simp [splitLab] at h

theorem evSeq_sound {P : Program} {c : Cfg} : ∀ (x : Code) (p : List Code) (l : Nat) (r : Code) (an : List Ann) (e : Tr) (a : Act) (w : World) (Q : Exit → Tr → World → Prop) (Q' : Exit → Act → World → Prop),
    splitLab x = some (p, l, r) → evSeq P c p an e w Q → Rel c.N e a →
    (∀ ex e' a' w', Rel c.N e' a' → Agree (wrL p) a a' → Q ex e' w' → match ex with | .normal => r.wpIn (Fw c.ro) 0 P Q' a' w' | ex => Q' ex a' w') → x.wpIn (Fw c.ro) 0 P Q' a w := by
  intro x
  induction x with
  | seq x y ihx ihy =>
    intro p l r an e a w Q Q' hs h hrel hk
    simp only [splitLab] at hs
    split at hs
    · simp at hs; obtain ⟨rfl, rfl, rfl⟩ := hs
      refine wpIn_seq (wpIn_label ?_)
      exact hk .normal e a w hrel (Agree.refl _ _) h
    · split at hs
      · rename_i p' l' r' hy
        simp at hs; obtain ⟨rfl, rfl, rfl⟩ := hs
        refine wpIn_seq (ev_sound _ _ e a w _ _ h hrel fun ex e' a' w' hr hag hq => ?_)
        have hag' : Agree (wrL (x :: p')) a a' := hag.mono fun t ht => List.mem_append_left _ ht
        cases ex with
        | normal => exact ihy p' l' r' an.tail e' a' w' Q Q' hy hq hr fun ex e'' a'' w'' hr' hag2 hq' => hk ex _ _ _ hr' (hag.trans hag2) hq'
        | exit id => exact hk (.exit id) _ _ _ hr hag' hq
        | goto l => exact hk (.goto l) _ _ _ hr hag' hq
        | ret => exact hk .ret _ _ _ hr hag' hq
        | panic ch => exact hk (.panic ch) _ _ _ hr hag' hq
        | outgrown => exact hk .outgrown _ _ _ hr hag' hq
      · cases hs
  | _ => intro p l r an e a w Q Q' hs; simp [splitLab] at hs

theorem evScope_sound {P : Program} {c : Cfg} {x : Code} {sl : List (Nat × Lf)} {pre : List Ann} {an : Ann} {e : Tr} {a : Act} {w : World} {Q : Exit → Tr → World → Prop} {Q' : Exit → Act → World → Prop}
    (h : evScope P c x sl pre an e w Q) (hrel : Rel c.N e a) (hk : ∀ ex e' a' w', Rel c.N e' a' → Agree (wr x) a a' → Q ex e' w' → Q' ex a' w') : (Code.scope x).wpIn (Fw c.ro) 0 P Q' a w := by
  unfold evScope at h
  split at h
  · exact h.elim
  · rename_i p l r hs
    split at h
    · exact h.elim
    · rename_i hp
      have hwr := wr_split hs
      -- the statements ahead of the label, then the loop
      have hfind := splitLab_find hs hp
      -- an invariant for jumps: a state from which the rest, jumping on, comes to Q'
      let I : Nat → Act → World → Prop := fun j a1 w1 => ∃ (e0 : Tr) (J : Tup sl → World → Prop) (μ : Tup sl → World → Nat) (s : Tup sl) (a0 : Act), μ s w1 = j ∧ J s w1 ∧ Agree (wr x) a a0 ∧ Agree (wr r) a0 a1 ∧ Rel c.N e0 a0 ∧
        Rel c.N (putSl sl s (e0.delL (wr r))) a1 ∧
        (∀ s w, J s w → ev P c r an (putSl sl s (e0.delL (wr r))) w (gotoE l (fun e'' w3 => decSl sl e'' fun s' => J s' w3 ∧ μ s' w3 < μ s w) Q))
      have hround : ∀ j a1 w1, I j a1 w1 → r.wpIn (Fw c.ro) 0 P (fun ex a' w' => match ex with | .goto i => i = l ∧ ∃ j', j' < j ∧ I j' a' w' | ex => Q' ex a' w') a1 w1 := by
        rintro j a1 w1 ⟨e0, J, μ, s, a0, rfl, hJ, hag0, hag1, hr0, hr1, hround⟩
        refine ev_sound r an _ a1 w1 _ _ (hround s w1 hJ) hr1 fun ex e' a' w' hr hag hq => ?_
        have hag2 : Agree (wr r) a0 a' := (hag1.trans hag).mono fun t ht => by rcases List.mem_append.1 ht with h | h <;> exact h
        have hag3 : Agree (wr x) a a' := (hag0.trans hag2).mono fun t ht => by
          rcases List.mem_append.1 ht with h | h
          · exact h
          · rw [hwr]; exact List.mem_append_right _ h
        cases ex with
        | goto i =>
          simp only [gotoE] at hq
          split at hq
          · rename_i hi
            have hi' := Nat.eq_of_beq_eq_true hi
            obtain ⟨s', ⟨hJ', hlt⟩, hp'⟩ := decSl_put hr hq
            exact ⟨hi', _, hlt, e0, J, μ, s', a0, rfl, hJ', hag0, hag2, hr0, hp' _ (hr0.delL hag2), hround⟩
          · exact hq.elim
        | normal => exact hk _ _ _ _ hr hag3 hq
        | exit id => exact hk _ _ _ _ hr hag3 hq
        | ret => exact hk _ _ _ _ hr hag3 hq
        | panic ch => exact hk _ _ _ _ hr hag3 hq
        | outgrown => exact hk _ _ _ _ hr hag3 hq
      refine wpIn_scope_goto hfind I ?_ ?_
      · refine evSeq_sound x p l r pre e a w _ _ hs h hrel fun ex e' a' w' hr hag hq => ?_
        cases ex with
        | normal =>
          obtain ⟨s0, h0, hp0⟩ := decSl_put hr hq
          obtain ⟨J, μ, hJ, hrd⟩ := h0
          have hag' : Agree (wr x) a a' := hag.mono fun t ht => by rw [hwr]; exact List.mem_append_left _ ht
          have := hround (μ s0 w') a' w' ⟨e', J, μ, s0, a', rfl, hJ, hag', Agree.refl _ _, hr, hp0 _ (hr.delL (Agree.refl _ _)), hrd⟩
          refine wpIn_mono this fun ex a'' w'' hq' => ?_
          cases ex with
          | goto i => exact ⟨hq'.1, hq'.2.choose, hq'.2.choose_spec.2⟩
          | normal => exact hq'
          | exit id => exact hq'
          | ret => exact hq'
          | panic ch => exact hq'
          | outgrown => exact hq'
        | goto i => exact hq.elim
        | exit id => exact hq.elim
        | ret => exact hk .ret e' a' w' hr (hag.mono fun t ht => by rw [hwr]; exact List.mem_append_left _ ht) hq
        | panic ch => exact hq.elim
        | outgrown => exact hq.elim
      · intro j a1 w1 hI
        exact wpIn_seq (wpIn_skip (hround j a1 w1 hI))

/-! ### functions -/
/-- The values of a function's results. -/
def resVals (P : Program) : List ResultVar → Tr → World → (List Value → Prop) → Prop
  | [], _, _, K => K []
  | .tmp t :: r, e, w, K => match e.get t with
    | some v => resVals P r e w fun vs => K (v :: vs)
    | none => False
  | .cell t ty :: r, e, w, K => match e.get t with
    | some (.pointer (some a)) => ∃ v, (loadVar ty a).run P w = .ok v w ∧ resVals P r e w fun vs => K (v :: vs)
    | _ => False
def finQ (P : Program) (fn : Func) (ts : List Ty) (K : curTs ts (World → Prop)) : Exit → Tr → World → Prop
  | .normal, e, w => resVals P fn.results.toList e w fun vs => match vs with
    | [v] => decR ts v K fun r => r w
    | vs => decR ts (.tuple vs.toArray) K fun r => r w
  | .ret, e, w => resVals P fn.results.toList e w fun vs => match vs with
    | [v] => decR ts v K fun r => r w
    | vs => decR ts (.tuple vs.toArray) K fun r => r w
  | _, _, _ => False
def env0 : Nat → List Value → Tr
  | _, [] => .nil
  | i, v :: vs => (env0 (i + 1) vs).put i v

theorem env0_get : ∀ (vs : List Value) (i t : Nat) (v : Value), (env0 i vs).get t = some v → i ≤ t ∧ vs[t - i]? = some v
  | [], i, t, v, h => by simp [env0, Tr.get] at h
  | x :: xs, i, t, v, h => by
    rcases Tr.get_set _ _ _ _ _ _ h with ⟨rfl, hv⟩ | ⟨hne, hv⟩
    · simp at hv; subst hv; simp
    · obtain ⟨h1, h2⟩ := env0_get xs (i + 1) t v hv
      refine ⟨by omega, ?_⟩
      have : t - i = (t - (i + 1)) + 1 := by omega
      rw [this]; simpa using h2
theorem rel_env0 {N : Nat} {args : List Value} (hN : args.length ≤ N) : Rel N (env0 0 args) { tmps := args.toArray ++ Array.replicate (N - args.toArray.size) undef, defers := [] } := by
  refine ⟨by simp; omega, fun t v h => ?_⟩
  obtain ⟨_, h2⟩ := env0_get args 0 t v h
  have hlt : t < args.length := by
    have := List.getElem?_eq_some_iff.1 h2
    simpa using this.1
  simp at h2
  have h3 := (List.getElem?_eq_some_iff.1 h2).2
  simp [Array.getElem?_append, hlt, h3]

def resF (tmps : Array Value) : ResultVar → Sem Value
  | .tmp t => pure (tmps.getD t undef)
  | .cell a t => do loadVar t (← asAddr (tmps.getD a undef))
theorem results_eq (fn : Func) (tmps : Array Value) : results fn tmps = (do let vs ← fn.results.mapM (resF tmps); pure (if h : vs.size = 1 then vs[0] else .tuple vs)) := rfl
theorem resVals_run {P : Program} {N : Nat} {e : Tr} {a : Act} {w : World} (hrel : Rel N e a) : ∀ (rs : List ResultVar) (K : List Value → Prop), resVals P rs e w K →
    ∃ vs, (rs.mapM (resF a.tmps)).run P w = .ok vs w ∧ K vs
  | [], K, h => ⟨[], by simp, h⟩
  | .tmp t :: r, K, h => by
    simp only [resVals] at h
    split at h
    · rename_i v hv
      obtain ⟨vs, h1, h2⟩ := resVals_run hrel r _ h
      refine ⟨v :: vs, ?_, h2⟩
      have ht : a.tmps.getD t undef = v := by rw [Array.getD_eq_getD_getElem?, hrel.get _ _ hv]; rfl
      simp only [List.mapM_cons, Sem.run_bind, resF, Sem.run_pure, Result.andThen_ok, h1, ht]
    · exact h.elim
  | .cell t ty :: r, K, h => by
    simp only [resVals] at h
    split at h
    · rename_i ad hv
      obtain ⟨v, hl, h⟩ := h
      obtain ⟨vs, h1, h2⟩ := resVals_run hrel r _ h
      refine ⟨v :: vs, ?_, h2⟩
      have ht : a.tmps.getD t undef = .pointer (some ad) := by rw [Array.getD_eq_getD_getElem?, hrel.get _ _ hv]; rfl
      simp only [List.mapM_cons, Sem.run_bind, resF, asAddr, Sem.run_pure, Result.andThen_ok, h1, ht, hl]
    · exact h.elim

theorem results_run {P : Program} {fn : Func} {N : Nat} {e : Tr} {a : Act} {w : World} {ts : List Ty} {K : curTs ts (World → Prop)} (hrel : Rel N e a)
    (h : resVals P fn.results.toList e w fun vs => match vs with
    | [v] => decR ts v K fun r => r w
    | vs => decR ts (.tuple vs.toArray) K fun r => r w) : ∃ v, (results fn a.tmps).run P w = .ok v w ∧ decR ts v K fun r => r w := by
  obtain ⟨vs, h1, h2⟩ := resVals_run hrel _ _ h
  have h3 : (results fn a.tmps).run P w = .ok (if h : vs.toArray.size = 1 then vs.toArray[0] else .tuple vs.toArray) w := by
    rw [results_eq, Array.mapM_eq_mapM_toList]
    simp only [Sem.run_bind, Sem.run_map, h1, Result.andThen_ok, Sem.run_pure, map_eq_pure_bind]
  rw [h3]
  match vs, h2 with
  | [], h2 => exact ⟨_, rfl, h2⟩
  | [v], h2 => exact ⟨_, rfl, h2⟩
  | v :: v' :: vs, h2 => exact ⟨_, rfl, by simpa using h2⟩

theorem calls_of_wpE {P : Program} {f : FuncId} {fn : Func} {code : Code} {args : List Value} {ts : List Ty} {K : curTs ts (World → Prop)} {w : World}
    (hf : P.funcs[f]? = some fn) (hb : fn.body = some code)
    (h : code.wpIn (Fw none) 0 P (fun ex a' w' => a'.defers = [] ∧ ∃ e', Rel fn.ntmps e' a' ∧ finQ P fn ts K ex e' w') { tmps := args.toArray ++ Array.replicate (fn.ntmps - args.toArray.size) undef, defers := [] } w) :
    callS P f args.toArray ts K w := by
  unfold callS
  refine (callsIn_wide (n := 0)).1 (callsIn_of_wp hf hb trivial (wpIn_mono h fun ex a' w' hq => ?_))
  obtain ⟨hd, e', hr, hq⟩ := hq
  cases ex with
  | normal => obtain ⟨v, h1, h2⟩ := results_run hr hq; exact ⟨hd, v, h1, h2⟩
  | ret => obtain ⟨v, h1, h2⟩ := results_run hr hq; exact ⟨hd, v, h1, h2⟩
  | exit id => exact hq.elim
  | goto l => exact hq.elim
  | panic ch => exact hq.elim
  | outgrown => exact hq.elim

/-- A function, from its body. -/
theorem calls_of_ev {P : Program} {f : FuncId} {fn : Func} {code : Code} {args : List Value} {ts : List Ty} {K : curTs ts (World → Prop)} {w : World} (fv : List Tmp) (an : Ann)
    (hf : P.funcs[f]? = some fn) (hb : fn.body = some code) (hN : Nat.ble args.length fn.ntmps = true)
    (h : ev P ⟨fn.ntmps, none, fv⟩ code an (env0 0 args) w (finQ P fn ts K)) : callS P f args.toArray ts K w :=
  calls_of_wpE hf hb (ev_sound (c := ⟨fn.ntmps, none, fv⟩) code an _ _ w _ _ h (rel_env0 (Nat.le_of_ble_eq_true hN)) fun ex e' a' w' hr hag hq => ⟨hag.defers, e', hr, hq⟩)
theorem calls_of_evScope {P : Program} {f : FuncId} {fn : Func} {code : Code} {args : List Value} {ts : List Ty} {K : curTs ts (World → Prop)} {w : World} (fv : List Tmp) (sl : List (Nat × Lf)) (pre : List Ann) (an : Ann)
    (hf : P.funcs[f]? = some fn) (hb : fn.body = some (.scope code)) (hN : Nat.ble args.length fn.ntmps = true)
    (h : evScope P ⟨fn.ntmps, none, fv⟩ code sl pre an (env0 0 args) w (finQ P fn ts K)) : callS P f args.toArray ts K w :=
  calls_of_wpE hf hb (evScope_sound (c := ⟨fn.ntmps, none, fv⟩) h (rel_env0 (Nat.le_of_ble_eq_true hN)) fun ex e' a' w' hr hag hq => ⟨hag.defers, e', hr, hq⟩)
/-- What a function comes to, by its body. -/
def evFn (P : Program) (fn : Func) (fv : List Tmp) (sl : List (Nat × Lf)) (pre : List Ann) (an : Ann) (args : List Value) (ts : List Ty) (K : curTs ts (World → Prop)) (w : World) : Prop :=
  match fn.body with
  | some (.scope code) => evScope P ⟨fn.ntmps, none, fv⟩ code sl pre an (env0 0 args) w (finQ P fn ts K)
  | some code => ev P ⟨fn.ntmps, none, fv⟩ code an (env0 0 args) w (finQ P fn ts K)
  | none => False
theorem calls_of_fn {P : Program} {f : FuncId} (fn : Func) {args : List Value} {ts : List Ty} {K : curTs ts (World → Prop)} {w : World} (fv : List Tmp) (sl : List (Nat × Lf)) (pre : List Ann) (an : Ann)
    (hf : P.funcs[f]? = some fn) (hN : Nat.ble args.length fn.ntmps = true) (h : evFn P fn fv sl pre an args ts K w) : callS P f args.toArray ts K w := by
  unfold evFn at h
  split at h
  · rename_i code hb; exact calls_of_evScope fv sl pre an hf hb hN h
  · rename_i code _ hb; exact calls_of_ev fv an hf hb hN h
  · exact h.elim

/-! ### short words -/
def binS (op : BinOp) (t : TypeId) (x y : Operand) (a b : Value) : Sem Value := do eqGuard op t x y a b; binOp op t a b
def callSem (f : Value) (args : Array Value) : Sem Next := do let d ← Deferred.ofValue f args; invoke d.target d.args
def fOrd (x y : Nat) := (FloatKind.format .f64).order x y
def fcEq (x y : Nat) : Bool := (FloatKind.format .f64).order x y == some .eq

abbrev wi (x : Int) : Int := IntKind.i64.wrap x
def andI (k : IntKind) (x y : Int) : Int := k.wrap ((BitVec.ofInt k.bits x &&& BitVec.ofInt k.bits y).toNat)
def orI (k : IntKind) (x y : Int) : Int := k.wrap ((BitVec.ofInt k.bits x ||| BitVec.ofInt k.bits y).toNat)
def xorI (k : IntKind) (x y : Int) : Int := k.wrap ((BitVec.ofInt k.bits x ^^^ BitVec.ofInt k.bits y).toNat)
def andNotI (k : IntKind) (x y : Int) : Int := k.wrap ((BitVec.ofInt k.bits x &&& ~~~(BitVec.ofInt k.bits y)).toNat)
def shlI (k : IntKind) (x y : Int) : Int := k.wrap (x * 2 ^ (min y.toNat k.bits))
def shrI (k : IntKind) (x y : Int) : Int := x.fdiv (2 ^ (min y.toNat k.bits))
end Go.Eng
