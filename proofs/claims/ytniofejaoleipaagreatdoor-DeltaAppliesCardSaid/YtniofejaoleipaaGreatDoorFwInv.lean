import Derived.Test.YtniofejaoleipaaGreatDoorFwRep
/-
  Objects against blocks; what a piece of a run may change.
-/
namespace Go.Fw
variable [YI]
section
variable (num : Nat → FuncId) (w : World) (F : Nat → Prop) (β : Beta)

def REnt : List MapEntry → List (ByteArray × AV) → Prop
  | [], [] => True
  | e :: es, (s, a) :: r => e.key = .string s ∧ RX num w F β a e.val ∧ REnt es r
  | _, _ => False

/-- The jump by which a round leaves. -/
def jumpOf : Nat → Code
  | 0 => .ret
  | n + 1 => .exit n
/-- A loop's record. -/
structure LpOk (i : YInfo) (r : Loop) (us : List Value) (s : Option Nat) : Prop where
  params : r.params.toList = i.ps
  assign : r.assign = i.assign
  body : r.body = i.body
  size : i.n ≤ r.tmps.size
  vals : i.slots.map (fun n => r.tmps[n]?) = us.map some
  good : (i.ps ++ i.slots).Nodup ∧ ∀ s ∈ i.ps, s < i.n
  state : match s with
    | none => r.state = .ready ∧ r.pending = none
    | some n => r.state = .done ∧ r.pending = some (jumpOf n)

/-- An object against its block. -/
def ORep (x : Option Nat) (o : AObj) : Prop :=
  match x, o with
  | some b, .arr k xs => ∃ c e cs rest, w.heap[b]? = some (.cells c e (0, 0)) ∧ RCk num w F β k xs cs ∧ c.toList = cs ++ rest
  | none, .arr _ xs => xs = []
  | some b, .bx x => ∃ c e, w.heap[b]? = some (.cells c e (0, 0)) ∧ (RC num w F β x c.toList ∨ x = .und ∨ ∃ as, x = .tup as)
  | some b, .lp f caps s => ∃ i r us, YI.yi f = some i ∧ w.heap[b]? = some (.loop r) ∧ LpOk i r us s ∧ RCv num w F β caps us
  | some b, .map es => ∃ en clk, w.heap[b]? = some (.map en clk) ∧ REnt num w F β en.toList es
  | _, _ => False

structure Inv (ob : Ob) : Prop where
  fin : ∀ b, F b → b < w.heap.size
  rep : ∀ p g o, lk ob p = some (g, o) → ∃ x, β p g = some x ∧ ORep num w F β x o
  own : ∀ p g o b, lk ob p = some (g, o) → β p g = some (some b) → ¬ F b ∧ b < w.heap.size
  inj : ∀ p g o p' g' o' b, lk ob p = some (g, o) → lk ob p' = some (g', o') → β p g = some (some b) → β p' g' = some (some b) → p = p'

/-- What the slots hold. -/
def ERep (env : Env) (tmps : Array Value) : Prop := ∀ n a, lk env n = some a → ∃ v, tmps[n]? = some v ∧ RX num w F β a v
end

/-- A piece of a run: what it may have changed. -/
structure Chg (w : World) (F : Nat → Prop) (M : Nat → Prop) (w' : World) (F' : Nat → Prop) : Prop where
  os : w'.os = w.os
  tape : w'.tape = w.tape
  output : w'.output = w.output
  size : w.heap.size ≤ w'.heap.size
  block : ∀ b, b < w.heap.size → ¬ M b → w'.heap[b]? = w.heap[b]?
  made : ∀ b, F' b → F b ∨ M b ∨ w.heap.size ≤ b

omit [YI] in
theorem Chg.refl (w : World) (F M : Nat → Prop) : Chg w F M w F := ⟨rfl, rfl, rfl, Nat.le_refl _, fun _ _ _ => rfl, fun _ h => .inl h⟩
omit [YI] in
theorem Chg.trans {w w' w'' : World} {F F' F'' M M' : Nat → Prop} (h : Chg w F M w' F') (h' : Chg w' F' M' w'' F'') (hM : ∀ b, M' b → M b ∨ w.heap.size ≤ b) : Chg w F M w'' F'' := by
  refine ⟨h'.os.trans h.os, h'.tape.trans h.tape, h'.output.trans h.output, Nat.le_trans h.size h'.size, fun b hb hn => ?_, fun b hb => ?_⟩
  · refine (h'.block b (Nat.lt_of_lt_of_le hb h.size) (fun hm => ?_)).trans (h.block b hb hn)
    rcases hM b hm with h1 | h1
    · exact hn h1
    · omega
  · rcases h'.made b hb with h1 | h1 | h1
    · exact h.made b h1
    · rcases hM b h1 with h2 | h2
      · exact .inr (.inl h2)
      · exact .inr (.inr h2)
    · exact .inr (.inr (Nat.le_trans h.size h1))

/-- The blocks of what is held. -/
def liveB (β : Beta) (ob : Ob) : Nat → Prop := fun b => ∃ p g o, lk ob p = some (g, o) ∧ β p g = some (some b)

section
variable {num : Nat → FuncId} {w w' : World} {F F' : Nat → Prop} {β β' : Beta}

omit [YI] in
theorem REnt.later (h : Later w F β w' F' β') : ∀ (en : List MapEntry) (es : List (ByteArray × AV)), REnt num w F β en es → REnt num w' F' β' en es
  | [], [], hr => hr
  | e :: en, (s, a) :: es, hr => ⟨hr.1, hr.2.1.later h, REnt.later h en es hr.2.2⟩
  | [], _ :: _, hr => hr.elim
  | _ :: _, [], hr => hr.elim

/-- An object whose block is as it was. -/
theorem ORep.later (h : Later w F β w' F' β') {x : Option Nat} {o : AObj} (hb : ∀ b, x = some b → w'.heap[b]? = w.heap[b]?) (hr : ORep num w F β x o) : ORep num w' F' β' x o := by
  unfold ORep at hr ⊢
  cases x with
  | none => cases o <;> first | exact hr | exact hr.elim
  | some b =>
    cases o with
    | arr k xs => obtain ⟨c, e, cs, rest, h1, h2, h3⟩ := hr; exact ⟨c, e, cs, rest, (hb b rfl).trans h1, RCk.later h _ _ _ h2, h3⟩
    | bx x => obtain ⟨c, e, h1, h2⟩ := hr; exact ⟨c, e, (hb b rfl).trans h1, h2.imp (RC.later h _ _) id⟩
    | map es => obtain ⟨en, clk, h1, h2⟩ := hr; exact ⟨en, clk, (hb b rfl).trans h1, REnt.later h _ _ h2⟩
    | lp f caps s => obtain ⟨i, r, us, h1, h2, h3, h4⟩ := hr; exact ⟨i, r, us, h1, (hb b rfl).trans h2, h3, RCv.later h _ _ h4⟩
    | bld s => exact hr.elim

omit [YI] in
theorem ERep.later (h : Later w F β w' F' β') {env : Env} {tmps : Array Value} (hr : ERep num w F β env tmps) : ERep num w' F' β' env tmps :=
  fun n a hn => let ⟨v, h1, h2⟩ := hr n a hn; ⟨v, h1, h2.later h⟩

omit [YI] in
theorem lk_up {δ : Type} : ∀ (l : List (Nat × δ)) (n : Nat) (b : δ) (m : Nat), lk (up l n b) m = if m = n then some b else lk l m
  | [], n, b, m => by
    unfold up lk lk
    rfl
  | (k, c) :: r, n, b, m => by
    unfold up
    by_cases h : n = k
    · subst h
      rw [if_pos rfl]
      unfold lk
      by_cases hm : m = n
      · rw [if_pos hm, if_pos hm]
      · rw [if_neg hm, if_neg hm]
        conv => rhs; rw [if_neg hm]
    · rw [if_neg h]
      unfold lk
      by_cases hk : m = k
      · subst hk
        rw [if_pos rfl, if_pos rfl, if_neg (fun e => h e.symm)]
      · rw [if_neg hk, if_neg hk]
        exact lk_up r n b m

omit [YI] in
theorem lk_rm {δ : Type} : ∀ (l : List (Nat × δ)) (n m : Nat), lk (rm l n) m = if m = n then none else lk l m
  | [], n, m => by unfold rm lk; split <;> rfl
  | (k, c) :: r, n, m => by
    unfold rm
    by_cases h : n = k
    · subst h
      rw [if_pos rfl, lk_rm r n m]
      by_cases hm : m = n
      · rw [if_pos hm, if_pos hm]
      · rw [if_neg hm, if_neg hm]; conv => rhs; unfold lk; rw [if_neg hm]
    · rw [if_neg h]
      unfold lk
      by_cases hk : m = k
      · subst hk
        rw [if_pos rfl, if_pos rfl, if_neg (fun e => h e.symm)]
      · rw [if_neg hk, if_neg hk]
        exact lk_rm r n m

omit [YI] in
theorem lk_rmAll {δ : Type} : ∀ (ps : List Nat) (l : List (Nat × δ)) (m : Nat), lk (rmAll l ps) m = if m ∈ ps then none else lk l m
  | [], l, m => by unfold rmAll; simp
  | p :: ps, l, m => by
    unfold rmAll
    rw [lk_rmAll ps, lk_rm]
    by_cases h1 : m ∈ ps
    · simp [h1]
    · by_cases h2 : m = p <;> simp [h1, h2]

omit [YI] in
theorem lk_kp {δ : Type} : ∀ (l : List (Nat × δ)) (ss : List Nat) (m : Nat) (b : δ), lk (kp l ss) m = some b → lk l m = some b
  | [], ss, m, b, h => by unfold kp at h; exact h
  | (k, c) :: r, ss, m, b, h => by
    unfold kp at h
    unfold lk
    split at h
    · unfold lk at h
      split at h
      · rename_i hm; rw [if_pos hm]; exact h
      · rename_i hm; rw [if_neg hm]; exact lk_kp r ss m b h
    · rename_i hs
      by_cases hm : m = k
      · subst hm
        exfalso
        have := memN_of_lk_kp r ss m b h
        exact hs this
      · rw [if_neg hm]; exact lk_kp r ss m b h
where
  memN_of_lk_kp {δ : Type} : ∀ (l : List (Nat × δ)) (ss : List Nat) (m : Nat) (b : δ), lk (kp l ss) m = some b → memN m ss = true
    | [], ss, m, b, h => by unfold kp lk at h; cases h
    | (k, c) :: r, ss, m, b, h => by
      unfold kp at h
      split at h
      · rename_i hk
        unfold lk at h
        split at h
        · rename_i hm; rw [hm]; exact hk
        · exact memN_of_lk_kp r ss m b h
      · exact memN_of_lk_kp r ss m b h

/-- Fewer objects. -/
theorem Inv.fewer {ob ob' : Ob} (h : Inv num w F β ob) (hs : ∀ p x, lk ob' p = some x → lk ob p = some x) : Inv num w F β ob' :=
  ⟨h.fin, fun p g o hp => h.rep p g o (hs _ _ hp), fun p g o b hp => h.own p g o b (hs _ _ hp), fun p g o p' g' o' b hp hp' => h.inj p g o p' g' o' b (hs _ _ hp) (hs _ _ hp')⟩

/-- Nothing that is held was touched. -/
theorem Inv.later {ob : Ob} (h : Inv num w F β ob) (hl : Later w F β w' F' β') (hf : ∀ b, F' b → b < w'.heap.size) (hb : ∀ b, liveB β ob b → w'.heap[b]? = w.heap[b]? ∧ ¬ F' b ∧ b < w'.heap.size) : Inv num w' F' β' ob := by
  refine ⟨hf, fun p g o hp => ?_, fun p g o b hp hx => ?_, fun p g o p' g' o' b hp hp' hx hx' => ?_⟩
  · obtain ⟨x, h1, h2⟩ := h.rep p g o hp
    exact ⟨x, hl.beta _ _ _ h1, h2.later hl fun b hx => (hb b ⟨p, g, o, hp, hx ▸ h1⟩).1⟩
  · obtain ⟨x, h1, _⟩ := h.rep p g o hp
    have hx' := hl.beta _ _ _ h1
    rw [hx] at hx'
    cases hx'
    exact (hb b ⟨p, g, o, hp, h1⟩).2
  · obtain ⟨x, h1, _⟩ := h.rep p g o hp
    obtain ⟨x', h1', _⟩ := h.rep p' g' o' hp'
    have e := hl.beta _ _ _ h1
    have e' := hl.beta _ _ _ h1'
    rw [hx] at e
    rw [hx'] at e'
    cases e
    cases e'
    exact h.inj p g o p' g' o' b hp hp' h1 h1'
end
end Go.Fw
