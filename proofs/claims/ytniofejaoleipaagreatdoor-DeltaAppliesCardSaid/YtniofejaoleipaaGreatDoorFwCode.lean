import Derived.Test.YtniofejaoleipaaGreatDoorFwReg2
import Derived.Test.YtniofejaoleipaaGreatDoorFwRules
/-
  Code, loops, functions: what holds of the abstract functions holds of the program's.
-/
namespace Go.Fw
variable [YI]

/-- A statement, or what is left of a region in the order of the text. -/
inductive CItem where
  | code (c : Code)
  | rest (ops : Array Oper) (d : Nat)

/-- A piece of code as a list of statements. -/
def flatC : Code → List CItem
  | .seq a b => flatC a ++ flatC b
  | .skip => []
  | .region id ops draw => match draw with
    | true => [.code (.region id ops true)]
    | false => [.rest ops 0]
  | c => [.code c]

/-- Without the empty regions ahead. -/
def dropE : List CItem → List CItem
  | [] => []
  | .rest ops d :: r => if ops.size ≤ d then dropE r else .rest ops d :: r
  | .code (.region id ops true) :: r => if ops.toList.isEmpty then dropE r else .code (.region id ops true) :: r
  | c :: r => c :: r

/-- What is left of the program's statements behind a piece of abstract code. -/
def chkA (P : Program) (num : Nat → FuncId) (N : Nat) : ACode → List CItem → Option (List CItem)
  | .skip, l => some l
  | .seq a b, l => match chkA P num N a l with
    | some r => chkA P num N b r
    | none => none
  | .sub c, l => chkA P num N c l
  | .keep _ _, l => some l
  | .frz _, l => some l
  | .stop, _ => some []
  | .reg is un, l => match dropE l with
    | .code (.region _ ops true) :: r => if chkR P num N ops true is un then some r else none
    | .rest ops d :: r => if chkT P num N ops d is then some (.rest ops (d + is.length) :: r) else none
    | _ => none
  | .cond x a b, l => match dropE l with
    | .code (.cond c thn els) :: r => if chkX num c x then
        match chkA P num N a (flatC thn), chkA P num N b (flatC els) with
        | some r1, some r2 => if (dropE r1).isEmpty && (dropE r2).isEmpty then some r else none
        | _, _ => none
      else none
    | _ => none
  | .blk id c, l => match dropE l with
    | .code (.block id' body) :: r => if id = id' then
        match chkA P num N c (flatC body) with
        | some r1 => if (dropE r1).isEmpty then some r else none
        | none => none
      else none
    | _ => none
  | .loop c, l => match dropE l with
    | .code (.loop body) :: r => match chkA P num N c (flatC body) with
      | some r1 => if (dropE r1).isEmpty then some r else none
      | none => none
    | _ => none
  | .exit id, l => match dropE l with
    | .code (.exit id') :: r => if id = id' then some r else none
    | _ => none
  | .ret, l => match dropE l with
    | .code .ret :: r => some r
    | _ => none
  | .rng x J f slots, l => match dropE l with
    | .code (.rangeFunc g ps _ _) :: r => if chkX num g x && decide (ps.toList ++ slots).Nodup && ps.toList.all (fun s => decide (s < N)) && slots.all (fun s => decide (s < N)) then some r else none
    | _ => none
  | .rnd _ _ _, _ => none

/-- The ranges over functions in a piece of code. -/
def colA (P : Program) (num : Nat → FuncId) (N : Nat) : ACode → List CItem → List (Nat × YInfo)
  | .seq a b, l => colA P num N a l ++ (match chkA P num N a l with
    | some r => colA P num N b r
    | none => [])
  | .sub c, l => colA P num N c l
  | .cond _ a b, l => match dropE l with
    | .code (.cond _ thn els) :: _ => colA P num N a (flatC thn) ++ colA P num N b (flatC els)
    | _ => []
  | .blk _ c, l => match dropE l with
    | .code (.block _ body) :: _ => colA P num N c (flatC body)
    | _ => []
  | .loop c, l => match dropE l with
    | .code (.loop body) :: _ => colA P num N c (flatC body)
    | _ => []
  | .rng _ _ f slots, l => match dropE l with
    | .code (.rangeFunc _ ps assign body) :: _ => [(f, ⟨ps.toList, slots, assign, body, N⟩)]
    | _ => []
  | _, _ => []
def hasRng : ACode → Bool
  | .seq a b => hasRng a || hasRng b
  | .sub c => hasRng c
  | .cond _ a b => hasRng a || hasRng b
  | .blk _ c => hasRng c
  | .loop c => hasRng c
  | .rng .. => true
  | _ => false
def Cols (l : List (Nat × YInfo)) : Prop := ∀ p ∈ l, YI.yi p.1 = some p.2

def exOf : Ex → Exit
  | .nrm => .normal
  | .ret => .ret
  | .exit id => .exit id

section
variable {P : Program} {r : Option Nat}

def wpL (r : Option Nat) (P : Program) : List CItem → (Exit → Act → World → Prop) → Act → World → Prop
  | [], Q, a, w => Q .normal a w
  | .code c :: cs, Q, a, w => c.wpIn (FF r) 0 P (Exit.then (wpL r P cs Q) Q) a w
  | .rest ops d :: cs, Q, a, w => wpOpsIn (FF r) 0 P ops (Exit.then (wpL r P cs Q) Q) (List.range' d (ops.size - d)) a w

omit [YI] in
theorem Exit.then_mono {K K' : Act → World → Prop} {Q Q' : Exit → Act → World → Prop} (hk : ∀ a w, K a w → K' a w) (hq : ∀ e a w, Q e a w → Q' e a w) : ∀ e a w, Exit.then K Q e a w → Exit.then K' Q' e a w := by
  intro e a w h
  cases e <;> first | exact hk _ _ h | exact hq _ _ _ h

omit [YI] in
theorem wpIn_empty {id : Nat} {ops : Array Oper} {draw : Bool} (h : ops.toList.isEmpty = true) {Q : Exit → Act → World → Prop} {a : Act} {w : World} (hq : ∀ w' : World, w'.heap = w.heap → w'.os = w.os → w'.tape = w.tape → w'.output = w.output → Q .normal a w') :
    (Code.region id ops draw).wpIn (FF r) 0 P Q a w := by
  have he : ops = #[] := by apply Array.ext'; simpa using h
  subst he
  cases draw with
  | false => exact wpIn_region (by simpa [wpOpsIn] using hq w rfl rfl rfl rfl)
  | true =>
    refine wpIn_region_draw fun t => ?_
    have : ∀ m : Bool, Region.schedule m #[] t = [] := by
      intro m
      cases m <;> simp [Region.schedule, Region.linearise, Region.linearise.go]
    rw [this]
    exact hq _ rfl rfl rfl rfl
end

section
variable {P : Program} {num : Nat → FuncId} {N : Nat} {r : Option Nat}

/-- A state against a run. -/
structure CRep (num : Nat → FuncId) (N : Nat) (st : St) (a : Act) (w : World) (F : Nat → Prop) (β : Beta) : Prop where
  env : ERep num w F β st.env a.tmps
  inv : Inv num w F β st.ob
  gen : ∀ p g x, β p g = some x → g < st.tk
  pos : 1 ≤ st.tk
  size : N ≤ a.tmps.size

/-- What a run from (w0, ..) has come to. -/
def Ran (num : Nat → FuncId) (N : Nat) (w0 : World) (F0 : Nat → Prop) (β0 : Beta) (ob0 : Ob) (tk0 : Nat) (a0 : Act) (st : St) (a : Act) (w : World) : Prop :=
  ∃ F β, CRep num N st a w F β ∧ Step num w0 F0 β0 ob0 w F β st.ob (fun g => g = 0 ∨ tk0 ≤ g) ∧ tk0 ≤ st.tk ∧ a.defers = a0.defers

theorem Ran.refl {st : St} {a : Act} {w : World} {F : Nat → Prop} {β : Beta} (h : CRep num N st a w F β) : Ran num N w F β st.ob st.tk a st a w := ⟨F, β, h, Step.refl h.inv _, Nat.le_refl _, rfl⟩

theorem Ran.after {w0 : World} {F0 : Nat → Prop} {β0 : Beta} {ob0 : Ob} {tk0 : Nat} {a0 : Act} {st st' : St} {a a' : Act} {w w' : World} {F : Nat → Prop} {β : Beta} (h1 : Step num w0 F0 β0 ob0 w F β st.ob (fun g => g = 0 ∨ tk0 ≤ g)) (h2 : tk0 ≤ st.tk) (h3 : a.defers = a0.defers)
    (h : Ran num N w F β st.ob st.tk a st' a' w') : Ran num N w0 F0 β0 ob0 tk0 a0 st' a' w' := by
  obtain ⟨F', β', k1, k2, k3, k4⟩ := h
  exact ⟨F', β', k1, h1.trans k2 (fun _ h => h) (fun g h => h.imp id (fun h => Nat.le_trans h2 h)), Nat.le_trans h2 k3, k4.trans h3⟩

theorem CRep.of_heap {st : St} {a : Act} {w w' : World} {F : Nat → Prop} {β : Beta} (h : CRep num N st a w F β) (hw : w'.heap = w.heap) : CRep num N st a w' F β :=
  ⟨h.env.later (Later.of_heap hw), h.inv.of_heap hw, h.gen, h.pos, h.size⟩

/-- The head of a loop. -/
def LoopAt (r : Option Nat) (P : Program) (c : Code) (Q : Exit → Act → World → Prop) (a : Act) (w : World) : Prop :=
  ∀ (b : Frame) (k : List Item) (cs : List Frame), b.roundOf = (FF r).round → (FF r).fn b.fn → (FF r).room (cs.length + 1 + 0) →
    ∃ e a' w', Q e a' w' ∧ ArrivesIn (Machine.fenced P (FF r)) P (lone (b.atR a (.code c :: .inLoop c :: k)) cs w) b k cs e a' w'

omit [YI] in
theorem LoopAt.round {c : Code} {Q : Exit → Act → World → Prop} {a : Act} {w : World} (h : c.wpIn (FF r) 0 P (Exit.then (LoopAt r P c Q) Q) a w) : LoopAt r P c Q a w := by
  intro b k cs hro hb hr
  obtain ⟨e, a₁, w₁, hq, harr⟩ := h b (.inLoop c :: k) cs hro hb hr
  cases e with
  | normal =>
    obtain ⟨e₂, a₂, w₂, hq₂, harr₂⟩ := hq b k cs hro hb hr
    exact ⟨e₂, a₂, w₂, hq₂, .of_steps (StepsIn.trans harr (.one (fenced_calm hb hr rfl) stepR_inLoop)) harr₂⟩
  | exit id => exact ⟨_, a₁, w₁, hq, .pass (x := .inLoop c) rfl (fun _ _ => .inl (by simp)) harr⟩
  | goto l => exact ⟨_, a₁, w₁, hq, .pass (x := .inLoop c) rfl (fun _ _ => .inl (by simp)) harr⟩
  | ret => exact ⟨_, a₁, w₁, hq, .pass (x := .inLoop c) rfl (fun _ _ => .inl (by simp)) harr⟩
  | panic ch => exact ⟨_, a₁, w₁, hq, .pass (x := .inLoop c) rfl (fun _ _ => .inl (by simp)) harr⟩
  | outgrown => exact ⟨_, a₁, w₁, hq, .pass (x := .inLoop c) rfl (fun _ _ => .inl (by simp)) harr⟩

omit [YI] in
theorem LoopAt.wp {c : Code} {Q : Exit → Act → World → Prop} {a : Act} {w : World} (h : LoopAt r P c Q a w) : (Code.loop c).wpIn (FF r) 0 P Q a w := by
  intro b k cs hro hb hr
  obtain ⟨e, a', w', hq, harr⟩ := h b k cs hro hb hr
  exact ⟨e, a', w', hq, .of_steps (.one (fenced_calm hb hr rfl) stepR_loop) harr⟩

/-- The marks of ranges over functions among the deferred calls: their blocks are nobody's. -/
def Marks (n0 : Nat) (w : World) (F : Nat → Prop) (β : Beta) (ob : Ob) (ds : List Deferred) : Prop :=
  ∃ Ds : List Nat, ds = Ds.map (fun D => ({ target := .collected D, args := #[] } : Deferred)) ∧ Ds.Nodup ∧ ∀ D ∈ Ds, n0 ≤ D ∧ w.heap[D]? = some (.deferred (some [])) ∧ ¬ F D ∧ ¬ liveB β ob D

theorem Marks.step {n0 : Nat} {w w' : World} {F F' : Nat → Prop} {β β' : Beta} {ob ob' : Ob} {ds : List Deferred} {n : Nat → Prop} (h : Marks n0 w F β ob ds) (hs : Step num w F β ob w' F' β' ob' n) : Marks n0 w' F' β' ob' ds := by
  obtain ⟨Ds, h1, h2, h3⟩ := h
  refine ⟨Ds, h1, h2, fun D hD => ?_⟩
  obtain ⟨k0, k1, k2, k3⟩ := h3 D hD
  have hlt : D < w.heap.size := (Array.getElem?_eq_some_iff.1 k1).1
  refine ⟨k0, by rw [hs.chg.block D hlt k3]; exact k1, fun hf => ?_, fun hl => ?_⟩
  · rcases hs.chg.made D hf with h | h | h
    · exact k2 h
    · exact k3 h
    · omega
  · rcases hs.live D hl with h | h
    · exact k3 h
    · omega
omit [YI] in
theorem Marks.nil (n0 : Nat) (w : World) (F : Nat → Prop) (β : Beta) (ob : Ob) : Marks n0 w F β ob [] := ⟨[], rfl, List.nodup_nil, by simp⟩

/-- What a run from (w0, ..) has come to, marks and all. -/
def RanC (num : Nat → FuncId) (N n0 : Nat) (w0 : World) (F0 : Nat → Prop) (β0 : Beta) (ob0 : Ob) (tk0 : Nat) (st : St) (a : Act) (w : World) : Prop :=
  ∃ F β, CRep num N st a w F β ∧ Step num w0 F0 β0 ob0 w F β st.ob (fun g => g = 0 ∨ tk0 ≤ g) ∧ tk0 ≤ st.tk ∧ Marks n0 w F β st.ob a.defers

theorem RanC.refl {n0 : Nat} {st : St} {a : Act} {w : World} {F : Nat → Prop} {β : Beta} (h : CRep num N st a w F β) (hm : Marks n0 w F β st.ob a.defers) : RanC num N n0 w F β st.ob st.tk st a w :=
  ⟨F, β, h, Step.refl h.inv _, Nat.le_refl _, hm⟩
theorem RanC.after {n0 : Nat} {w0 : World} {F0 : Nat → Prop} {β0 : Beta} {ob0 : Ob} {tk0 : Nat} {st st' : St} {a a' : Act} {w w' : World} {F : Nat → Prop} {β : Beta} (h1 : Step num w0 F0 β0 ob0 w F β st.ob (fun g => g = 0 ∨ tk0 ≤ g)) (h2 : tk0 ≤ st.tk) (h3 : Marks n0 w F β st.ob a.defers)
    (h : Ran num N w F β st.ob st.tk a st' a' w') : RanC num N n0 w0 F0 β0 ob0 tk0 st' a' w' := by
  obtain ⟨F', β', k1, k2, k3, k4⟩ := h
  exact ⟨F', β', k1, h1.trans k2 (fun _ h => h) (fun g h => h.imp id (fun h => Nat.le_trans h2 h)), Nat.le_trans h2 k3, by rw [k4]; exact h3.step k2⟩
theorem RanC.afterC {n0 : Nat} {w0 : World} {F0 : Nat → Prop} {β0 : Beta} {ob0 : Ob} {tk0 : Nat} {st st' : St} {a' : Act} {w w' : World} {F : Nat → Prop} {β : Beta} (h1 : Step num w0 F0 β0 ob0 w F β st.ob (fun g => g = 0 ∨ tk0 ≤ g)) (h2 : tk0 ≤ st.tk)
    (h : RanC num N n0 w F β st.ob st.tk st' a' w') : RanC num N n0 w0 F0 β0 ob0 tk0 st' a' w' := by
  obtain ⟨F', β', k1, k2, k3, k4⟩ := h
  exact ⟨F', β', k1, h1.trans k2 (fun _ h => h) (fun g h => h.imp id (fun h => Nat.le_trans h2 h)), Nat.le_trans h2 k3, k4⟩

/-- What is to be shown of the jobs. -/
def JobOk (P : Program) (num : Nat → FuncId) : Job → Prop
  | .call f args ob tk R => CallJob P num f args ob tk R
  | .loop c st Q => ∀ (N n0 : Nat) (r : Option Nat) (body : Code) (rest : List CItem), chkA P num N c (flatC body) = some rest → (dropE rest).isEmpty = true → Cols (colA P num N c (flatC body)) → (hasRng c = true → r = none) →
      ∀ (w : World) (F : Nat → Prop) (β : Beta) (a : Act), CRep num N st a w F β → Marks n0 w F β st.ob a.defers → n0 ≤ w.heap.size →
      ∀ QQ : Exit → Act → World → Prop, (∀ e st' a' w', Q e st' → RanC num N n0 w F β st.ob st.tk st' a' w' → QQ (exOf e) a' w') → LoopAt r P body QQ a w

omit [YI] in
theorem wpL_flat : ∀ (c : Code) (l : List CItem) (Q : Exit → Act → World → Prop) (a : Act) (w : World), wpL r P (flatC c ++ l) Q a w → c.wpIn (FF r) 0 P (Exit.then (wpL r P l Q) Q) a w
  | .seq x y, l, Q, a, w, h => by
    refine wpIn_seq (wpIn_mono (wpL_flat x (flatC y ++ l) Q a w (by simpa [flatC] using h)) fun e a1 w1 h1 => ?_)
    cases e with
    | normal => exact wpL_flat y l Q a1 w1 h1
    | _ => exact h1
  | .skip, l, Q, a, w, h => wpIn_skip h
  | .region id ops true, _, _, _, _, h => h
  | .region id ops false, l, Q, a, w, h => by
    refine wpIn_region ?_
    rw [List.range_eq_range']
    exact h
  | .cond .., _, _, _, _, h | .block .., _, _, _, _, h | .loop .., _, _, _, _, h | .rangeFunc .., _, _, _, _, h | .exit .., _, _, _, _, h | .scope .., _, _, _, _, h
  | .label .., _, _, _, _, h | .goto .., _, _, _, _, h | .ret, _, _, _, _, h | .refuse .., _, _, _, _, h => h

/-- The same but for the count of draws. -/
structure Like (w w' : World) : Prop where
  heap : w'.heap = w.heap
  os : w'.os = w.os
  tape : w'.tape = w.tape
  output : w'.output = w.output
omit [YI] in
theorem Like.refl (w : World) : Like w w := ⟨rfl, rfl, rfl, rfl⟩
omit [YI] in
theorem Like.trans {w w' w'' : World} (h : Like w w') (h' : Like w' w'') : Like w w'' := ⟨h'.heap.trans h.heap, h'.os.trans h.os, h'.tape.trans h.tape, h'.output.trans h.output⟩

omit [YI] in
theorem dropE_run : ∀ (l : List CItem) (Q : Exit → Act → World → Prop) (a : Act) (w : World), (∀ w', Like w w' → wpL r P (dropE l) Q a w') → wpL r P l Q a w
  | [], Q, a, w, h => h w (.refl w)
  | c :: l, Q, a, w, h => by
    unfold dropE at h
    split at h
    · rename_i heq; cases heq
    · rename_i ops d l' heq
      cases heq
      split at h
      · rename_i he
        show wpOpsIn (FF r) 0 P ops _ (List.range' d (ops.size - d)) a w
        rw [show ops.size - d = 0 by omega]
        exact dropE_run l Q a w h
      · exact h w (.refl w)
    · rename_i id ops l' heq
      cases heq
      split at h
      · rename_i he
        refine wpIn_empty he fun w' h1 h2 h3 h4 => ?_
        exact dropE_run l Q a w' fun w'' hl => h w'' (Like.trans ⟨h1, h2, h3, h4⟩ hl)
      · exact h w (.refl w)
    · rename_i heq
      cases heq
      exact h w (.refl w)

theorem RanC.like {n0 : Nat} {w0 : World} {F0 : Nat → Prop} {β0 : Beta} {ob0 : Ob} {tk0 : Nat} {st : St} {a : Act} {w w' : World} (h : RanC num N n0 w0 F0 β0 ob0 tk0 st a w) (hl : Like w w') : RanC num N n0 w0 F0 β0 ob0 tk0 st a w' := by
  obtain ⟨F, β, h1, h2, h3, h4⟩ := h
  have hs : Step num w F β st.ob w' F β st.ob (fun _ => False) := Step.of_heap hl.heap hl.os hl.tape hl.output h1.inv
  exact ⟨F, β, h1.of_heap hl.heap, h2.trans hs (fun _ h => h) (fun _ h => h.elim), h3, h4.step hs⟩

section
variable {S : Job → Prop} {is : List Ins} {un : List (Nat × Nat)} {st : St} {w : World} {F : Nat → Prop} {β : Beta} {a : Act} {ops : Array Oper}

theorem at_start {es : List Eff} (hr : CRep num N st a w F β) (w' : World) (h1 : w'.heap = w.heap) (h2 : w'.os = w.os) (h3 : w'.tape = w.tape) (h4 : w'.output = w.output) (X : Nat → Bool) (hX : ∀ k, X k = false) :
    AtX num is es st.tk { st with tk := nextTk st.tk is } w F β a X a w' := by
  have hst := stX_none es 0 X { st with tk := nextTk st.tk is } fun k _ => hX k
  have hr' := hr.of_heap h1
  refine ⟨F, β, by rw [hst]; exact hr'.env, by rw [hst]; exact Step.of_heap h1 h2 h3 h4 hr.inv, rfl, rfl, fun p g x hx => ?_, by rw [hst]; exact Nat.le_refl _⟩
  rw [hst]
  have := hr.gen p g x hx
  exact ⟨Nat.lt_of_lt_of_le this (le_nextTk _ _), fun k i _ _ _ => by omega⟩

theorem at_end {es : List Eff} {Qa : St → Prop} (hr : CRep num N st a w F β) (f3 : Qa (stX es 0 (fun _ => true) { st with tk := nextTk st.tk is })) {K : Act → World → Prop} (hQ : ∀ st' a' w', Qa st' → Ran num N w F β st.ob st.tk a st' a' w' → K a' w') :
    ∀ a' w', AtX num is es st.tk { st with tk := nextTk st.tk is } w F β a (fun _ => true) a' w' → K a' w' := by
  rintro a' w' ⟨F', β', h1, h2, h3, h4, h5, h6⟩
  refine hQ _ a' w' f3 ⟨F', β', ⟨h1, h2.inv, fun p g x hx => (h5 p g x hx).1, ?_, by rw [h3]; exact hr.size⟩, h2, Nat.le_trans (le_nextTk _ _) h6, h4⟩
  exact Nat.le_trans hr.pos (Nat.le_trans (le_nextTk _ _) h6)

/-- A part of a region in the order of the text. -/
theorem text_reg (hS : ∀ f args ob tk R, S (.call f args ob tk R) → CallJob P num f args ob tk R) (hup : ∀ f args ob tk R, S (.call f args ob tk R) → ∃ a o t, R a o t ∧ tk ≤ t) {d : Nat}
    (hc : chkT P num N ops d is = true) {Qa : St → Prop} (hw : wpOps S un st.tk is 0 [] { st with tk := nextTk st.tk is } Qa) (hr : CRep num N st a w F β)
    {Q : Exit → Act → World → Prop} (hQ : ∀ st' a' w', Qa st' → Ran num N w F β st.ob st.tk a st' a' w' → wpOpsIn (FF r) 0 P ops Q (List.range' (d + is.length) (ops.size - (d + is.length))) a' w') :
    wpOpsIn (FF r) 0 P ops Q (List.range' d (ops.size - d)) a w := by
  obtain ⟨es, f1, f2, f3, f4⟩ := facts_of is [] [] { st with tk := nextTk st.tk is } Qa hw (by intro a ea h; simp at h) (by intro a b ea eb _ h; simp at h)
  have hR : Reg P num N ops d S un is es st.tk { st with tk := nextTk st.tk is } := ⟨hS, hc, f1, by simpa using f2, f4, hr.pos, rfl, hup⟩
  have hlen : d + is.length ≤ ops.size ∨ is.length = 0 := by
    have := (chkIs_get hc).1
    simp at this
    omega
  have := text_run (r := r) (Q := Q) hR hr.size (ops.size - (d + is.length)) (at_end hr f3 hQ) is.length 0 (by omega) a w (at_start hr w rfl rfl rfl rfl _ (by simp))
  rw [Nat.add_zero] at this
  rcases hlen with hlen | hlen
  · rwa [show is.length + (ops.size - (d + is.length)) = ops.size - d by omega] at this
  · rwa [hlen, Nat.add_zero, Nat.zero_add] at this

/-- A region whose order is drawn. -/
theorem draw_reg (hS : ∀ f args ob tk R, S (.call f args ob tk R) → CallJob P num f args ob tk R) (hup : ∀ f args ob tk R, S (.call f args ob tk R) → ∃ a o t, R a o t ∧ tk ≤ t) {id : Nat}
    (hc : chkR P num N ops true is un = true) {Qa : St → Prop} (hw : wpOps S un st.tk is 0 [] { st with tk := nextTk st.tk is } Qa) (hr : CRep num N st a w F β)
    {Q : Exit → Act → World → Prop} (hQ : ∀ st' a' w', Qa st' → Ran num N w F β st.ob st.tk a st' a' w' → Q .normal a' w') : (Code.region id ops true).wpIn (FF r) 0 P Q a w := by
  unfold chkR at hc
  simp only [Bool.and_eq_true, Bool.or_eq_true, Bool.not_eq_true', decide_eq_true_eq] at hc
  obtain ⟨⟨hsz, hc1⟩, hc2⟩ := hc
  obtain ⟨es, f1, f2, f3, f4⟩ := facts_of is [] [] { st with tk := nextTk st.tk is } Qa hw (by intro a ea h; simp at h) (by intro a b ea eb _ h; simp at h)
  have hR : Reg P num N ops 0 S un is es st.tk { st with tk := nextTk st.tk is } := ⟨hS, by rw [List.drop_zero, List.take_of_length_le (by simp [hsz])]; exact hc1, f1, by simpa using f2, f4, hr.pos, rfl, hup⟩
  rcases hc2 with hc2 | ⟨⟨hm, ho⟩, hb⟩
  · cases hc2
  · refine wpIn_region_any hm ?_
    have hemp : ∀ k, (Array.replicate ops.size false).getD k false = false := by
      intro k
      simp only [Array.getD]
      split
      · simp
      · rfl
    refine any_run hR hsz hr.size ho hb (at_end hr f3 (K := Q .normal) hQ) ops.size _ a _ (by simp) ?_ ?_ (at_start hr { w with drawn := w.drawn + 1 } rfl rfl rfl rfl _ hemp)
    · intro j o _ hx
      dsimp only at hx
      rw [hemp] at hx
      cases hx
    · refine Nat.le_trans List.countP_le_length ?_
      simp
end

theorem evX {st : St} {a : Act} {w : World} {F : Nat → Prop} {β : Beta} (h : CRep num N st a w F β) {x : Operand} {y : X} (hc : chkX num x y = true) {b : Bool} (hy : y.ev st.env = some (.v (.bool b))) : a.eval x = .bool b :=
  (chkX_spec h.env hc hy).atom_inv

/-- An owned slice frozen: the run does nothing. -/
theorem frz_run {st : St} {a : Act} {w : World} {F : Nat → Prop} {β : Beta} (h : CRep num N st a w F β) {s : Nat} {b : AV} {q : AV × Ob} (hs : lk st.env s = some b) (hf : frzV st.ob b = some q) :
    ∃ F', CRep num N ⟨up st.env s q.1, q.2, st.tk⟩ a w F' β ∧ Step num w F β st.ob w F' β q.2 (fun g => g = 0 ∨ st.tk ≤ g) := by
  unfold frzV at hf
  split at hf
  · rename_i p g k1 off n
    split at hf
    · rename_i g' k xs hl
      split at hf
      · rename_i hc
        obtain ⟨rfl, rfl, hlen⟩ := hc
        cases hf
        obtain ⟨v, hv, hx⟩ := h.env s _ hs
        have hone : ∀ q x, lk [(p, g, AObj.arr k1 xs)] q = some x → lk st.ob q = some x := by
          intro q x hq
          unfold lk at hq
          split at hq
          · rename_i e; rw [e, hl]; exact hq
          · unfold lk at hq; cases hq
        have hi1 : Inv num w F β [(p, g, AObj.arr k1 xs)] := h.inv.fewer hone
        have hlive : ∀ b, liveB β [(p, g, AObj.arr k1 xs)] b → β p g = some (some b) := by
          rintro b ⟨q, g', o, m1, m2⟩
          unfold lk at m1
          split at m1
          · rename_i e; cases m1; rw [← e]; exact m2
          · unfold lk at m1; cases m1
        have hc := own_frz (β' := β) (ys := (xs.drop off).take n) hi1 (by unfold lk; rw [if_pos rfl]) hlen (hx.single (by simp) (by simp) rfl) (fun ds hd => RCk.later later_frz _ _ _ hd) (by simp; omega)
        have hless : Inv num w F β (rm st.ob p) := h.inv.fewer fun q x hq => by
          rw [lk_rm] at hq
          split at hq
          · cases hq
          · exact hq
        have hinv : Inv num w (frzF F β [(p, g, AObj.arr k1 xs)]) β (rm st.ob p) := by
          refine hless.later later_frz (fun b hb => ?_) fun b hb => ?_
          · rcases hb with hb | hb
            · exact h.inv.fin b hb
            · exact (h.inv.own _ _ _ _ hl (hlive b hb)).2
          · obtain ⟨q, g', o, m1, m2⟩ := hb
            rw [lk_rm] at m1
            split at m1
            · cases m1
            · rename_i hne
              have hown := h.inv.own _ _ _ _ m1 m2
              exact ⟨rfl, fun hh => hh.elim hown.1 fun hh => hne (h.inv.inj _ _ _ _ _ _ _ m1 hl m2 (hlive b hh)), hown.2⟩
        refine ⟨frzF F β [(p, g, AObj.arr k1 xs)], ⟨ERep_up (h.env.later later_frz) hv (RX.of_single hc rfl), hinv, h.gen, h.pos, h.size⟩, ⟨later_frz, ⟨rfl, rfl, rfl, Nat.le_refl _, fun _ _ _ => rfl, fun b hb => hb.elim .inl fun hb => .inr (.inl ⟨p, g, _, hl, hlive b hb⟩)⟩, hinv, fun b hb => ?_, fun _ _ _ h => .inl h⟩⟩
        obtain ⟨q, g', o, m1, m2⟩ := hb
        rw [lk_rm] at m1
        split at m1
        · cases m1
        · exact .inl ⟨q, g', o, m1, m2⟩
      · cases hf
    · cases hf
  · cases hf
    obtain ⟨v, hv, hx⟩ := h.env s _ hs
    exact ⟨F, ⟨ERep_up h.env hv hx, h.inv, h.gen, h.pos, h.size⟩, Step.refl h.inv _⟩
  · cases hf
    obtain ⟨v, hv, hx⟩ := h.env s _ hs
    exact ⟨F, ⟨ERep_up h.env hv hx, h.inv, h.gen, h.pos, h.size⟩, Step.refl h.inv _⟩
  · cases hf
    obtain ⟨v, hv, hx⟩ := h.env s _ hs
    exact ⟨F, ⟨ERep_up h.env hv hx, h.inv, h.gen, h.pos, h.size⟩, Step.refl h.inv _⟩
  · cases hf

omit [YI] in
theorem isEmpty_nil {l : List CItem} (h : l.isEmpty = true) : l = [] := by simpa using h

omit [YI] in
theorem slotsV_rep {st : St} {tmps : Array Value} {w : World} {F : Nat → Prop} {β : Beta} (he : ERep num w F β st.env tmps) : ∀ (slots : List Nat) (caps : List AV), slotsV st.env slots = some caps → ∃ us : List Value, slots.map (fun n => tmps[n]?) = us.map some ∧ RCv num w F β caps us
  | [], caps, h => by unfold slotsV at h; cases h; exact ⟨[], rfl, by unfold RCv; rfl⟩
  | s :: r, caps, h => by
    unfold slotsV at h
    split at h
    · rename_i a as ha hs
      cases h
      obtain ⟨us, h1, h2⟩ := slotsV_rep he r as hs
      obtain ⟨v, h3, h4⟩ := he s a ha
      exact ⟨v :: us, by simp [h3, h1], RCv_cons.2 ⟨v, us, rfl, h4, h2⟩⟩
    · cases h

theorem Step.alloc {w : World} {F : Nat → Prop} {β : Beta} {ob : Ob} {n : Nat → Prop} (hi : Inv num w F β ob) (x : Obj) : Step num w F β ob (w.alloc x) F β ob n := by
  have hl : Later w F β (w.alloc x) F β := ⟨fun _ h => h, fun b hb => heap_alloc_old w x b (hi.fin b hb), fun b m h => blkSize_alloc w x b m h, fun _ _ _ h => h⟩
  refine ⟨hl, chg_obj _ _, hi.later hl (fun b hb => by have := hi.fin b hb; simp; omega) fun b ⟨p, g, o, h1, h2⟩ => ?_, fun _ h => .inl h, fun _ _ _ h => .inl h⟩
  have := hi.own p g o b h1 h2
  exact ⟨heap_alloc_old w x b this.2, this.1, by simp; omega⟩

omit [YI] in
theorem mark_inj : ∀ {a b : List Nat}, a.map (fun D => ({ target := .collected D, args := #[] } : Deferred)) = b.map (fun D => ({ target := .collected D, args := #[] } : Deferred)) → a = b
  | [], [], _ => rfl
  | [], _ :: _, h => by simp at h
  | _ :: _, [], h => by simp at h
  | x :: a, y :: b, h => by
    simp only [List.map_cons, List.cons.injEq, Deferred.mk.injEq, Target.collected.injEq, and_true] at h
    rw [h.1, mark_inj h.2]

/-- A range over a function. -/
theorem rng_run {S : Job → Prop} (hS : ∀ J, S J → JobOk P num J) {n0 : Nat} {w0 : World} {F0 : Nat → Prop} {β0 : Beta} {ob0 : Ob} {tk0 : Nat} {g : Operand} {ps : Array Tmp} {assign body : Code} {x : X} {J f : Nat} {slots : List Nat} {st : St} {Q : Ex → St → Prop} {a : Act} {w : World} {rest : List CItem}
    (hyi : YI.yi f = some ⟨ps.toList, slots, assign, body, N⟩) (c1 : chkX num g x = true) (c2 : (ps.toList ++ slots).Nodup) (c3 : ∀ s ∈ ps.toList, s < N) (c4 : ∀ s ∈ slots, s < N) (hn0 : n0 ≤ w0.heap.size)
    (h : wpS S (.rng x J f slots) st Q) (hr : RanC num N n0 w0 F0 β0 ob0 tk0 st a w) {QQ : Exit → Act → World → Prop}
    (hQ : ∀ e st' a' w', Q e st' → RanC num N n0 w0 F0 β0 ob0 tk0 st' a' w' → match e with | .nrm => wpL none P rest QQ a' w' | e => QQ (exOf e) a' w') :
    wpL none P (.code (.rangeFunc g ps assign body) :: rest) QQ a w := by
  obtain ⟨F, β, h1, h2, h3, h4⟩ := hr
  unfold wpS at h
  split at h
  case h_2 => exact h.elim
  rename_i hf caps hh hcaps
  obtain ⟨hJ, q, hjob, hend⟩ := h
  rw [Option.bind_eq_some_iff] at hh
  obtain ⟨av, hav, hfn⟩ := hh
  unfold fnV at hfn
  split at hfn
  case h_2 => cases hfn
  rename_i fi caps0
  cases hfn
  obtain ⟨cs0, hval, hrep0, hlt⟩ := (chkX_spec h1.env c1 hav).fn_inv
  obtain ⟨us, hus, hcus⟩ := slotsV_rep h1.env slots caps hcaps
  have hcall := ((hS _ hjob).1 hlt)
  refine wpIn_rangeFunc ?_
  intro fn _
  -- the record
  have hD : (w.alloc (.deferred (some []))).heap[w.heap.size]? = some (.deferred (some [])) := heap_alloc_new w _
  have s1 : Step num w F β st.ob (w.alloc (.deferred (some []))) F β st.ob (fun _ => False) := Step.alloc h1.inv _
  let rec0 : Loop := { state := .ready, pending := none, fn := fn, tmps := a.tmps, params := ps, assign := assign, body := body, defers := w.heap.size }
  have hg : ∀ p, β p st.tk = none := fun p => by
    cases hb : β p st.tk with
    | none => rfl
    | some y => have := h1.gen p _ y hb; omega
  have hsz : (w.alloc (.deferred (some []))).heap.size = w.heap.size + 1 := by simp
  let l := (w.alloc (.deferred (some []))).heap.size
  let W1 := (w.alloc (.deferred (some []))).alloc (.loop rec0)
  let β1 := β.set J st.tk (some l)
  have hlat1 : Later (w.alloc (.deferred (some []))) F β W1 F β1 := later_obj s1.inv.fin hg J _ _
  have hrep : ORep num W1 F β1 (some l) (.lp f caps none) := by
    unfold ORep
    refine ⟨_, rec0, us, hyi, heap_alloc_new _ _, ⟨rfl, rfl, rfl, h1.size, hus, ⟨c2, c3⟩, ⟨rfl, rfl⟩⟩, RCv.later (s1.later.trans hlat1) _ _ hcus⟩
  have s2 : Step num (w.alloc (.deferred (some []))) F β st.ob W1 F β1 (up st.ob J (st.tk, .lp f caps none)) (fun g => g = st.tk) :=
    ⟨hlat1, chg_obj _ _, inv_obj s1.inv hg hrep, (Tail.put (tg := st.tk) fun b hb => by cases hb; exact .inr (Nat.le_refl _)).live, fun p g' y hy => Beta.set_dom β J st.tk _ p g' y hy⟩
  have s12 : Step num w F β st.ob W1 F β1 (up st.ob J (st.tk, .lp f caps none)) (fun g => g = st.tk) := s1.trans s2 (fun _ h => h.elim) (fun _ h => h)
  have hyl : RX num W1 F β1 (.yl J st.tk) (.func (.yield l) #[] #[]) := RX.of_single (by unfold RC; exact ⟨l, Beta.set_same _ _ _ _, rfl⟩) rfl
  have hargs : RCv num W1 F β1 (.yl J st.tk :: caps0) ([.func (.yield l) #[] #[]] ++ cs0) := RCv_cons.2 ⟨_, _, rfl, hyl, RCv.later s12.later _ _ hrep0⟩
  have hm1 : Marks n0 W1 F β1 (up st.ob J (st.tk, .lp f caps none)) ([{ target := .collected w.heap.size, args := #[] }] ++ a.defers) := by
    obtain ⟨Ds, m1, m2, m3⟩ := h4.step s12
    obtain ⟨Ds', m1', m2', m3'⟩ := h4
    have hinj : Ds = Ds' := by
      exact mark_inj (m1.symm.trans m1')
    subst hinj
    have hnot : w.heap.size ∉ Ds := fun hm => by
      have := (m3' _ hm).2.1
      have := (Array.getElem?_eq_some_iff.1 this).1
      omega
    refine ⟨w.heap.size :: Ds, by rw [m1]; rfl, List.nodup_cons.2 ⟨hnot, m2⟩, fun D hD' => ?_⟩
    rcases List.mem_cons.1 hD' with rfl | hD'
    · refine ⟨Nat.le_trans hn0 h2.chg.size, ?_, fun hF => ?_, fun hL => ?_⟩
      · rw [show W1.heap[w.heap.size]? = (w.alloc (.deferred (some []))).heap[w.heap.size]? from heap_alloc_old _ _ _ (by rw [hsz]; omega)]
        exact hD
      · have := h1.inv.fin _ hF; omega
      · obtain ⟨p', g', o', k1, k2⟩ := hL
        rw [lk_up] at k1
        simp only [β1, Beta.set] at k2
        split at k1
        · rename_i e
          cases k1
          rw [if_pos ⟨e, rfl⟩] at k2
          simp only [Option.some.injEq, l, hsz] at k2
          omega
        · rename_i e
          rw [if_neg (fun h => e h.1)] at k2
          have := (h1.inv.own _ _ _ _ k1 k2).2
          omega
    · exact m3 D hD'
  refine ⟨l, [{ target := .collected w.heap.size, args := #[] }], W1, { target := .fn (.func (num fi)) cs0.toArray, args := #[.func (.yield l) #[] #[]] }, W1, num fi, ([Value.func (.yield l) #[] #[]] ++ cs0).toArray, W1, ?_, ?_, fun _ _ => trivial, ?_, fun h => by simp [FF, Fence.wide] at h, ?_⟩
  · have := run_enterLoop_outer (P := P) (w := w) fn a.tmps ps assign body
    simp only [l, hsz]
    exact this
  · simp only [resolve, hval]
    simp [Deferred.ofValue, Act.eval]
  · have := hcall.1 (#[.func (.yield l) #[] #[]] ++ cs0.toArray) W1
    simp only [invoke]
    rw [this]
    congr 2
    apply Array.ext'
    simp
  · refine CallsIn.mono (hcall.2 W1 F β1 _ (Nat.le_add_left _ _) s12.inv (fun p g' y hy => ?_) hargs) fun e w3 he => ?_
    · rcases Beta.set_dom β J st.tk _ p g' y hy with hh | hh
      · have := h1.gen p g' y hh; omega
      · omega
    · cases e with
      | panicked c => exact he.elim
      | outgrown => exact he.elim
      | returned v =>
        obtain ⟨ra, ob', tk', F', β', k1, k2, k3, k4⟩ := he
        subst k1
        have hβJ : β' J st.tk = some (some l) := k4.later.beta _ _ _ (Beta.set_same _ _ _ _)
        -- how it was left
        have key : ∀ s, leftBy ob' J st.tk = some s → ∃ f' caps' rec' us', lk ob' J = some (st.tk, .lp f' caps' s) ∧ w3.heap[l]? = some (.loop rec') ∧ (∃ i', LpOk i' rec' us' s) := by
          intro s hs
          unfold leftBy at hs
          split at hs
          · rename_i g2 f' caps' s' hlk
            split at hs
            · rename_i hg2
              subst hg2
              cases hs
              obtain ⟨y, hy, ho⟩ := k4.inv.rep _ _ _ hlk
              rw [hβJ] at hy
              cases hy
              unfold ORep at ho
              obtain ⟨i', rec', us', _, ho2, ho3, _⟩ := ho
              exact ⟨f', caps', rec', us', hlk, ho2, i', ho3⟩
            · cases hs
          · cases hs
        cases hs : leftBy ob' J st.tk with
        | none => rw [hs] at hend; exact hend.elim
        | some s =>
          rw [hs] at hend
          obtain ⟨f', caps', rec', us', hlk, hheap, i', hlp⟩ := key s hs
          have hown := k4.inv.own _ _ _ _ hlk hβJ
          have hbusy : rec'.state ≠ .busy := by
            have := hlp.state
            cases s with
            | none => rw [this.1]; simp
            | some n => rw [this.1]; simp
          have hendL := run_endLoop (P := P) hheap hbusy
          let w4 := w3.putObj l (.loop { rec' with state := .exhausted })
          have hne : ∀ b, b ≠ l → w4.heap[b]? = w3.heap[b]? := fun b hb => World.putObj_heap_other hb
          have hsz4 : w4.heap.size = w3.heap.size := by simp [w4]
          have hlat4 : Later w3 F' β' w4 F' β' := ⟨fun _ h => h, fun b hb => hne b fun e => hown.1 (e ▸ hb), fun b m hm => by
            by_cases e : b = l
            · subst e; unfold blkSize at hm; rw [hheap] at hm; cases hm
            · unfold blkSize; rw [hne b e]; exact hm, fun _ _ _ h => h⟩
          have hless : ∀ p y, lk (rm ob' J) p = some y → lk ob' p = some y := fun p y hp => by
            rw [lk_rm] at hp
            split at hp
            · cases hp
            · exact hp
          have hinv4 : Inv num w4 F' β' (rm ob' J) := by
            refine (k4.inv.fewer hless).later hlat4 (fun b hb => by rw [hsz4]; exact k4.inv.fin b hb) fun b ⟨p', g', o', m1, m2⟩ => ?_
            rw [lk_rm] at m1
            split at m1
            · cases m1
            · rename_i hneJ
              have ho := k4.inv.own _ _ _ _ m1 m2
              exact ⟨hne b fun e => hneJ (k4.inv.inj _ _ _ _ _ _ _ m1 hlk (e ▸ m2) hβJ), ho.1, by rw [hsz4]; exact ho.2⟩
          have s4 : Step num w3 F' β' ob' w4 F' β' (rm ob' J) (fun _ => False) :=
            ⟨hlat4, ⟨rfl, rfl, rfl, by rw [hsz4]; exact Nat.le_refl _, fun b _ hn => hne b fun e => hn (e ▸ ⟨J, _, _, hlk, hβJ⟩), fun _ h => .inl h⟩, hinv4, fun b ⟨p', g', o', m1, m2⟩ => .inl ⟨p', g', o', hless _ _ m1, m2⟩, fun _ _ _ h => .inl h⟩
          have sAll : Step num w0 F0 β0 ob0 w4 F' β' (rm ob' J) (fun g => g = 0 ∨ tk0 ≤ g) :=
            (h2.trans (s12.trans (k4.trans s4 (n := fun g => g = 0 ∨ (st.tk + 1 ≤ g ∧ g < tk')) (fun _ h => h) (fun _ h => h.elim)) (n := fun g => g = 0 ∨ st.tk ≤ g) (fun g h => .inr (by omega)) (fun g h => h.imp id fun h => by omega)) (fun _ h => h) (fun g h => h.imp id fun h => by omega))
          have hran : RanC num N n0 w0 F0 β0 ob0 tk0 ⟨st.env, rm ob' J, tk'⟩ { a with defers := [{ target := .collected w.heap.size, args := #[] }] ++ a.defers } w4 := by
            refine ⟨F', β', ⟨h1.env.later (s12.later.trans (k4.later.trans hlat4)), hinv4, fun p g' y hy => ?_, (by show 1 ≤ tk'; omega), h1.size⟩, sAll, (by show tk0 ≤ tk'; omega), ((hm1.step k4).step s4)⟩
            rcases k4.gen p g' y hy with hh | hh | hh
            · rcases Beta.set_dom β J st.tk _ p g' y hh with hh | hh
              · have := h1.gen p g' y hh; show g' < tk'; omega
              · show g' < tk'; omega
            · show g' < tk'; omega
            · show g' < tk'; omega
          have hpend := hlp.state
          cases s with
          | none =>
            refine ⟨none, w4, hendL.trans (congrArg (fun p => Result.ok p w4) hpend.2), ?_⟩
            exact hQ .nrm _ _ _ hend hran
          | some n =>
            refine ⟨some (jumpOf n), w4, hendL.trans (congrArg (fun p => Result.ok p w4) hpend.2), ?_⟩
            cases n with
            | zero => exact wpIn_ret (hQ .ret _ _ _ hend hran)
            | succ n => exact wpIn_exit (hQ (.exit n) _ _ _ hend hran)

/-- Code: what it comes to. -/
theorem code_run {S : Job → Prop} (hS : ∀ J, S J → JobOk P num J) (hup : ∀ f args ob tk R, S (.call f args ob tk R) → ∃ a o t, R a o t ∧ tk ≤ t) {n0 : Nat} {w0 : World} {F0 : Nat → Prop} {β0 : Beta} {ob0 : Ob} {tk0 : Nat} (hn0 : n0 ≤ w0.heap.size) :
    ∀ (c : ACode) (l rest : List CItem), chkA P num N c l = some rest → Cols (colA P num N c l) → (hasRng c = true → r = none) → ∀ (st : St) (Q : Ex → St → Prop), wpS S c st Q → ∀ (a : Act) (w : World), RanC num N n0 w0 F0 β0 ob0 tk0 st a w →
      ∀ (QQ : Exit → Act → World → Prop), (∀ e st' a' w', Q e st' → RanC num N n0 w0 F0 β0 ob0 tk0 st' a' w' → match e with | .nrm => wpL r P rest QQ a' w' | e => QQ (exOf e) a' w') → wpL r P l QQ a w := by
  intro c
  induction c with
  | skip =>
    intro l rest hc hcol hrng st Q h a w hr QQ hQ
    cases hc
    exact hQ .nrm st a w h hr
  | seq x y ihx ihy =>
    intro l rest hc hcol hrng st Q h a w hr QQ hQ
    simp only [chkA] at hc
    split at hc
    · rename_i r1 hx
      simp only [colA, hx] at hcol
      simp only [hasRng, Bool.or_eq_true] at hrng
      refine ihx l r1 hx (fun p hp => hcol p (List.mem_append_left _ hp)) (fun h => hrng (.inl h)) st _ h a w hr QQ fun e st' a' w' he hr' => ?_
      cases e with
      | nrm => exact ihy r1 rest hc (fun p hp => hcol p (List.mem_append_right _ hp)) (fun h => hrng (.inr h)) st' Q he a' w' hr' QQ hQ
      | ret => exact hQ .ret st' a' w' he hr'
      | exit id => exact hQ (.exit id) st' a' w' he hr'
    · cases hc
  | sub c ih =>
    intro l rest hc hcol hrng st Q h a w hr QQ hQ
    exact ih l rest hc hcol hrng st Q h a w hr QQ hQ
  | keep ss ps =>
    intro l rest hc hcol hrng st Q h a w hr QQ hQ
    cases hc
    refine hQ .nrm _ a w h ?_
    obtain ⟨F, β, h1, h2, h3, h4⟩ := hr
    have hless : ∀ p x, lk (rmAll st.ob ps) p = some x → lk st.ob p = some x := fun q x hq => by
      rw [lk_rmAll] at hq
      split at hq
      · cases hq
      · exact hq
    have hinv := h1.inv.fewer hless
    have hs : Step num w F β st.ob w F β (rmAll st.ob ps) (fun _ => False) := ⟨Later.refl _ _ _, Chg.refl _ _ _, hinv, fun b ⟨q, g, o, m1, m2⟩ => .inl ⟨q, g, o, hless _ _ m1, m2⟩, fun _ _ _ h => .inl h⟩
    exact ⟨F, β, ⟨fun n b hn => h1.env n b (lk_kp _ _ _ _ hn), hinv, h1.gen, h1.pos, h1.size⟩, h2.trans hs (fun _ h => h) (fun _ h => h.elim), h3, h4.step hs⟩
  | stop => intro l rest hc hcol hrng st Q h a w hr QQ hQ; exact h.elim
  | frz s =>
    intro l rest hc hcol hrng st Q h a w hr QQ hQ
    cases hc
    unfold wpS at h
    split at h
    · rename_i b hs
      split at h
      · rename_i q hf
        obtain ⟨F, β, h1, h2, h3, h4⟩ := hr
        obtain ⟨F', k1, k2⟩ := frz_run h1 hs hf
        refine hQ .nrm _ a w h ⟨F', β, k1, h2.trans k2 (fun _ h => h) (fun g h => h.imp id fun h => Nat.le_trans h3 h), h3, h4.step k2⟩
      · exact h.elim
    · exact h.elim
  | reg is un =>
    intro l rest hc hcol hrng st Q h a w hr QQ hQ
    simp only [chkA] at hc
    split at hc
    · rename_i id ops r1 hl
      split at hc
      · rename_i hchk
        cases hc
        refine dropE_run l QQ a w fun w' hlike => ?_
        rw [hl]
        obtain ⟨F, β, h1, h2, h3, h4⟩ := hr.like hlike
        refine draw_reg (fun f args ob tk R h => hS _ h) hup hchk (Qa := fun s => Q .nrm s) h h1 fun st' a' w'' hq hr' => ?_
        exact hQ .nrm st' a' w'' hq (RanC.after h2 h3 h4 hr')
      · cases hc
    · rename_i ops d r1 hl
      split at hc
      · rename_i hchk
        cases hc
        refine dropE_run l QQ a w fun w' hlike => ?_
        rw [hl]
        obtain ⟨F, β, h1, h2, h3, h4⟩ := hr.like hlike
        refine text_reg (fun f args ob tk R h => hS _ h) hup hchk (Qa := fun s => Q .nrm s) h h1 fun st' a' w'' hq hr' => ?_
        exact hQ .nrm st' a' w'' hq (RanC.after h2 h3 h4 hr')
      · cases hc
    · cases hc
  | cond x ca cb iha ihb =>
    intro l rest hc hcol hrng st Q h a w hr QQ hQ
    simp only [chkA] at hc
    split at hc
    · rename_i c' thn els r1 hl
      split at hc
      · rename_i hx
        split at hc
        · rename_i ra rb hA hB
          split at hc
          · rename_i hemp
            simp only [Bool.and_eq_true] at hemp
            cases hc
            refine dropE_run l QQ a w fun w' hlike => ?_
            rw [hl]
            have hr' := hr.like hlike
            have branch : ∀ (c0 : ACode) (code : Code) (ra : List CItem), (∀ (l rest : List CItem), chkA P num N c0 l = some rest → Cols (colA P num N c0 l) → (hasRng c0 = true → r = none) → ∀ (st : St) (Q : Ex → St → Prop), wpS S c0 st Q → ∀ (a : Act) (w : World), RanC num N n0 w0 F0 β0 ob0 tk0 st a w →
                ∀ (QQ : Exit → Act → World → Prop), (∀ e st' a' w', Q e st' → RanC num N n0 w0 F0 β0 ob0 tk0 st' a' w' → match e with | .nrm => wpL r P rest QQ a' w' | e => QQ (exOf e) a' w') → wpL r P l QQ a w) →
                chkA P num N c0 (flatC code) = some ra → Cols (colA P num N c0 (flatC code)) → (hasRng c0 = true → r = none) → (dropE ra).isEmpty = true → wpS S c0 st Q → code.wpIn (FF r) 0 P (Exit.then (wpL r P rest QQ) QQ) a w' := by
              intro c0 code ra ih hcode hcol0 hrng0 hdrop hwp
              have := ih (flatC code) ra hcode hcol0 hrng0 st Q hwp a w' hr' (Exit.then (wpL r P rest QQ) QQ) fun e st' a' w'' he hr'' => ?_
              · refine wpIn_mono (wpL_flat code [] _ a w' (by simpa using this)) fun e a1 w1 h1 => ?_
                cases e <;> exact h1
              · cases e with
                | nrm =>
                  refine dropE_run ra _ a' w'' fun w3 hl3 => ?_
                  rw [isEmpty_nil hdrop]
                  exact hQ .nrm st' a' w3 he (hr''.like hl3)
                | ret => exact hQ .ret st' a' w'' he hr''
                | exit id => exact hQ (.exit id) st' a' w'' he hr''
            simp only [colA, hl] at hcol
            simp only [hasRng, Bool.or_eq_true] at hrng
            unfold wpS at h
            split at h
            · rename_i t hev
              obtain ⟨F, β, h1, _⟩ := hr'
              have hb := evX h1 hx hev
              cases t with
              | true => exact wpIn_cond_true hb (branch ca thn ra iha hA (fun p hp => hcol p (List.mem_append_left _ hp)) (fun h => hrng (.inl h)) hemp.1 h)
              | false => exact wpIn_cond_false hb (branch cb els rb ihb hB (fun p hp => hcol p (List.mem_append_right _ hp)) (fun h => hrng (.inr h)) hemp.2 h)
            · exact h.elim
          · cases hc
        · cases hc
      · cases hc
    · cases hc
  | blk id c ih =>
    intro l rest hc hcol hrng st Q h a w hr QQ hQ
    simp only [chkA] at hc
    split at hc
    · rename_i id' body r1 hl
      split at hc
      · rename_i hid
        subst hid
        split at hc
        · rename_i ra hA
          split at hc
          · rename_i hemp
            cases hc
            refine dropE_run l QQ a w fun w' hlike => ?_
            rw [hl]
            have hr' := hr.like hlike
            refine wpIn_block ?_
            have := ih (flatC body) ra hA (by simp only [colA, hl] at hcol; exact hcol) hrng st _ h a w' hr' (Exit.inBlock id (Exit.then (wpL r P rest QQ) QQ)) fun e st' a' w'' he hr'' => ?_
            · refine wpIn_mono (wpL_flat body [] _ a w' (by simpa using this)) fun e a1 w1 h1 => ?_
              cases e <;> exact h1
            · cases e with
              | nrm =>
                refine dropE_run ra _ a' w'' fun w3 hl3 => ?_
                rw [isEmpty_nil hemp]
                exact hQ .nrm st' a' w3 he (hr''.like hl3)
              | ret => exact hQ .ret st' a' w'' he hr''
              | exit id' =>
                show Exit.inBlock id _ (.exit id') a' w''
                simp only [Exit.inBlock]
                dsimp only at he
                split
                · rename_i e2
                  rw [if_pos e2] at he
                  exact hQ .nrm st' a' w'' he hr''
                · rename_i e2
                  rw [if_neg e2] at he
                  exact hQ (.exit id') st' a' w'' he hr''
          · cases hc
        · cases hc
      · cases hc
    · cases hc
  | loop c ih =>
    intro l rest hc hcol hrng st Q h a w hr QQ hQ
    simp only [chkA] at hc
    split at hc
    · rename_i body r1 hl
      split at hc
      · rename_i ra hA
        split at hc
        · rename_i hemp
          cases hc
          refine dropE_run l QQ a w fun w' hlike => ?_
          rw [hl]
          obtain ⟨F, β, h1, h2, h3, h4⟩ := hr.like hlike
          obtain ⟨R, hJ, hR⟩ := h
          have hsz : n0 ≤ w'.heap.size := Nat.le_trans hn0 h2.chg.size
          refine LoopAt.wp (hS _ hJ N n0 r body ra hA hemp (by simp only [colA, hl] at hcol; exact hcol) hrng w' F β a h1 h4 hsz (Exit.then (wpL r P rest QQ) QQ) fun e st' a' w'' he hr' => ?_)
          have := hQ e st' a' w'' (hR e st' he) (RanC.afterC h2 h3 hr')
          cases e <;> exact this
        · cases hc
      · cases hc
    · cases hc
  | exit id =>
    intro l rest hc hcol hrng st Q h a w hr QQ hQ
    simp only [chkA] at hc
    split at hc
    · rename_i id' r1 hl
      split at hc
      · rename_i hid
        subst hid
        cases hc
        refine dropE_run l QQ a w fun w' hlike => ?_
        rw [hl]
        exact wpIn_exit (hQ (.exit id) st a w' h (hr.like hlike))
      · cases hc
    · cases hc
  | ret =>
    intro l rest hc hcol hrng st Q h a w hr QQ hQ
    simp only [chkA] at hc
    split at hc
    · rename_i r1 hl
      cases hc
      refine dropE_run l QQ a w fun w' hlike => ?_
      rw [hl]
      exact wpIn_ret (hQ .ret st a w' h (hr.like hlike))
    · cases hc
  | rnd ss ac c _ _ =>
    intro l rest hc hcol hrng st Q h a w hr QQ hQ
    simp only [chkA] at hc
    cases hc
  | rng x J f slots =>
    intro l rest hc hcol hrng st Q h a w hr QQ hQ
    simp only [chkA] at hc
    split at hc
    · rename_i g ps assign body r1 hl
      split at hc
      · rename_i hchk
        cases hc
        simp only [Bool.and_eq_true, decide_eq_true_eq, List.all_eq_true] at hchk
        obtain ⟨⟨⟨c1, c2⟩, c3⟩, c4⟩ := hchk
        simp only [colA, hl] at hcol
        have hyi : YI.yi f = some ⟨ps.toList, slots, assign, body, N⟩ := hcol _ (List.mem_singleton.2 rfl)
        have hrn : r = none := hrng rfl
        subst hrn
        refine dropE_run l QQ a w fun w' hlike => ?_
        rw [hl]
        exact rng_run hS hyi c1 c2 c3 c4 hn0 h (hr.like hlike) hQ
      · cases hc
    · cases hc
end
end Go.Fw
