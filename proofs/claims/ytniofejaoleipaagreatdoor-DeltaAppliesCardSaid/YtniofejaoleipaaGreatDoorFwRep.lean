import Derived.Test.YtniofejaoleipaaGreatDoorFwCore
import Derived.Laws.AppendOwn
/-
  Abstract values against the values and the memory of a run.
-/
namespace Go.Fw

/-- Cells that lie from an address on, in a block that is never written again. -/
def Row (w : World) (F : Nat → Prop) (a : Addr) (cs : List Value) : Prop :=
  (cs ≠ [] → a.spot = none) ∧ (cs ≠ [] → F a.block) ∧ ∀ j u, cs[j]? = some u → w.cell? (a.add j) = some u

/-- The cells of a block. -/
def blkSize (w : World) (b : Nat) : Option Nat :=
  match w.heap[b]? with
  | some (.cells c _ _) => some c.size
  | _ => none

/-- A value of one cell that is no reference. -/
def atom : Value → Bool
  | .int .. | .bool _ | .string _ | .pointer none | .nilFunc | .map none | .nilIface => true
  | _ => false

/-- The rounds of a range over a function, as the program has them: the loop variables, what the abstract function captures, the assignment, the body, the temporaries. -/
structure YInfo where
  ps : List Nat
  slots : List Nat
  assign : Code
  body : Code
  n : Nat
/-- The functions 1000000, .. are rounds. -/
class YI where
  yi : Nat → Option YInfo

abbrev Beta := Nat → Nat → Option (Option Nat)

section
variable (num : Nat → FuncId) (w : World) (F : Nat → Prop) (β : Beta)
mutual
/-- A value against its cells. -/
def RC : AV → List Value → Prop
  | .v x, cs => cs = [x] ∧ atom x = true
  | .agg ss fs, cs => RCf ss fs cs
  | .sl k xs, cs => (cs = [.slice none 0 0] ∧ xs = []) ∨ ∃ a cap ds, cs = [.slice (some a) xs.length cap] ∧ xs.length ≤ cap ∧ Row w F a ds ∧ RCk k xs ds
  | .tup _, cs => cs = []
  | .fn f caps, cs => ∃ vs : List Value, cs = [.func (.func (num f)) #[] vs.toArray] ∧ RCv caps vs ∧ f < 1000000
  | .cptr x, cs => ∃ a ds, cs = [.pointer (some a)] ∧ Row w F a ds ∧ RC x ds
  | .ptr p g _ off, cs => ∃ b, β p g = some (some b) ∧ cs = [.pointer (some ⟨b, off, none⟩)]
  | .own p g k off n, cs => (∃ x : Option Addr, (∀ a, x = some a → a.spot = none) ∧ cs = [.slice x 0 0] ∧ n = 0) ∨
      ∃ b cap m, β p g = some (some b) ∧ cs = [.slice (some ⟨b, off * k, none⟩) n cap] ∧ n ≤ cap ∧ cap ≤ maxLen ∧ blkSize w b = some m ∧ (off + cap) * k ≤ m
  | .mp p g, cs => ∃ b, β p g = some (some b) ∧ cs = [.map (some b)]
  | .yl p g, cs => ∃ b, β p g = some (some b) ∧ cs = [.func (.yield b) #[] #[]]
  | .nil, cs => cs = [.slice none 0 0]
  | .e0, cs => ∃ a : Addr, a.spot = none ∧ cs = [.slice (some a) 0 0]
  | .und, cs => cs = []
/-- Parts of these sizes, one behind the other. -/
def RCf : List Nat → List AV → List Value → Prop
  | [], [], cs => cs = []
  | n :: ss, f :: fs, cs => ∃ c1 c2, cs = c1 ++ c2 ∧ c1.length = n ∧ RC f c1 ∧ RCf ss fs c2
  | _, _, _ => False
/-- Elements of k cells each. -/
def RCk : Nat → List AV → List Value → Prop
  | _, [], cs => cs = []
  | k, x :: xs, cs => ∃ c1 c2, cs = c1 ++ c2 ∧ c1.length = k ∧ RC x c1 ∧ RCk k xs c2
/-- Values, each in a slot of its own. -/
def RCv : List AV → List Value → Prop
  | [], vs => vs = []
  | .und :: as, vs => ∃ r, vs = undef :: r ∧ RCv as r
  | .tup bs :: as, vs => ∃ ts r, vs = .tuple ts :: r ∧ RCv bs ts.toList ∧ RCv as r
  | a :: as, vs => ∃ v r cs, vs = v :: r ∧ (v = .agg cs ∧ a.isAgg = true ∨ cs = #[v] ∧ a.isAgg = false) ∧ RC a cs.toList ∧ RCv as r
end

/-- A value against what a slot holds. -/
def RX (a : AV) (v : Value) : Prop :=
  match a with
  | .und => v = undef
  | .tup as => ∃ vs : Array Value, v = .tuple vs ∧ RCv num w F β as vs.toList
  | a => ∃ cs : Array Value, (v = .agg cs ∧ a.isAgg = true ∨ cs = #[v] ∧ a.isAgg = false) ∧ RC num w F β a cs.toList
end

section
variable {num : Nat → FuncId} {w : World} {F : Nat → Prop} {β : Beta}
theorem RCv_cons {a : AV} {as : List AV} {vs : List Value} : RCv num w F β (a :: as) vs ↔ ∃ v r, vs = v :: r ∧ RX num w F β a v ∧ RCv num w F β as r := by
  cases a with
  | und =>
    constructor
    · intro h; unfold RCv at h; obtain ⟨r, h1, h2⟩ := h; exact ⟨undef, r, h1, rfl, h2⟩
    · rintro ⟨v, r, h1, h3, h2⟩; unfold RCv; exact ⟨r, by rw [h1, show v = undef from h3], h2⟩
  | tup bs =>
    constructor
    · intro h; unfold RCv at h; obtain ⟨ts, r, h1, h2, h3⟩ := h; exact ⟨_, r, h1, ⟨ts, rfl, h2⟩, h3⟩
    · rintro ⟨v, r, h1, ⟨ts, h4, h5⟩, h2⟩; unfold RCv; subst h4; exact ⟨ts, r, h1, h5, h2⟩
  | _ =>
    constructor
    · intro h; unfold RCv at h; obtain ⟨v, r, cs, h1, h2, h3, h4⟩ := h; exact ⟨v, r, h1, ⟨cs, h2, h3⟩, h4⟩
    · rintro ⟨v, r, h1, ⟨cs, h2, h3⟩, h4⟩; unfold RCv; exact ⟨v, r, cs, h1, h2, h3, h4⟩
end

/-- What stays when time goes on. -/
structure Later (w : World) (F : Nat → Prop) (β : Beta) (w' : World) (F' : Nat → Prop) (β' : Beta) : Prop where
  fr : ∀ b, F b → F' b
  row : ∀ b, F b → w'.heap[b]? = w.heap[b]?
  size : ∀ b m, blkSize w b = some m → blkSize w' b = some m
  beta : ∀ p g x, β p g = some x → β' p g = some x

theorem Later.refl (w : World) (F : Nat → Prop) (β : Beta) : Later w F β w F β := ⟨fun _ h => h, fun _ _ => rfl, fun _ _ h => h, fun _ _ _ h => h⟩
theorem Later.trans {w w' w'' : World} {F F' F'' : Nat → Prop} {β β' β'' : Beta} (h : Later w F β w' F' β') (h' : Later w' F' β' w'' F'' β'') : Later w F β w'' F'' β'' :=
  ⟨fun b hb => h'.fr b (h.fr b hb), fun b hb => (h'.row b (h.fr b hb)).trans (h.row b hb), fun b m hm => h'.size b m (h.size b m hm), fun p g x hx => h'.beta p g x (h.beta p g x hx)⟩

theorem Row.later {w w' : World} {F F' : Nat → Prop} {β β' : Beta} (h : Later w F β w' F' β') {a : Addr} {cs : List Value} (hr : Row w F a cs) : Row w' F' a cs := by
  refine ⟨hr.1, fun hc => h.fr _ (hr.2.1 hc), fun j u hj => ?_⟩
  have hc : cs ≠ [] := by intro e; rw [e] at hj; simp at hj
  have hb : (a.add j).block = a.block := by unfold Addr.add; split <;> rfl
  rw [World.cell?_of_block (w := w) (by rw [hb]; exact h.row _ (hr.2.1 hc))]
  exact hr.2.2 j u hj

section
variable {num : Nat → FuncId} {w w' : World} {F F' : Nat → Prop} {β β' : Beta}
mutual
theorem RC.later (h : Later w F β w' F' β') : ∀ (a : AV) (cs : List Value), RC num w F β a cs → RC num w' F' β' a cs
  | .v x, cs, hr => by simpa -implicitDefEqProofs only [RC] using hr
  | .agg ss fs, cs, hr => by simp -implicitDefEqProofs only [RC] at hr ⊢; exact RCf.later h ss fs cs hr
  | .sl k xs, cs, hr => by
    simp -implicitDefEqProofs only [RC] at hr ⊢
    rcases hr with hr | ⟨a, cap, ds, h1, h2, h3, h4⟩
    · exact .inl hr
    · exact .inr ⟨a, cap, ds, h1, h2, h3.later h, RCk.later h k xs ds h4⟩
  | .tup _, cs, hr => by simpa -implicitDefEqProofs only [RC] using hr
  | .fn f caps, cs, hr => by
    simp -implicitDefEqProofs only [RC] at hr ⊢
    obtain ⟨vs, h1, h2, h3⟩ := hr
    exact ⟨vs, h1, RCv.later h caps vs h2, h3⟩
  | .cptr x, cs, hr => by
    simp -implicitDefEqProofs only [RC] at hr ⊢
    obtain ⟨a, ds, h1, h2, h3⟩ := hr
    exact ⟨a, ds, h1, h2.later h, RC.later h x ds h3⟩
  | .ptr p g path off, cs, hr => by
    simp -implicitDefEqProofs only [RC] at hr ⊢
    obtain ⟨b, h1, h2⟩ := hr
    exact ⟨b, h.beta _ _ _ h1, h2⟩
  | .own p g k off n, cs, hr => by
    simp -implicitDefEqProofs only [RC] at hr ⊢
    rcases hr with ⟨x, h1, h2⟩ | ⟨b, cap, m, h1, h2, h3, h4, h5, h6⟩
    · exact .inl ⟨x, h1, h2⟩
    · exact .inr ⟨b, cap, m, h.beta _ _ _ h1, h2, h3, h4, h.size _ _ h5, h6⟩
  | .mp p g, cs, hr => by
    simp -implicitDefEqProofs only [RC] at hr ⊢
    obtain ⟨b, h1, h2⟩ := hr
    exact ⟨b, h.beta _ _ _ h1, h2⟩
  | .yl p g, cs, hr => by
    simp -implicitDefEqProofs only [RC] at hr ⊢
    obtain ⟨b, h1, h2⟩ := hr
    exact ⟨b, h.beta _ _ _ h1, h2⟩
  | .nil, cs, hr => by simpa -implicitDefEqProofs only [RC] using hr
  | .e0, cs, hr => by simpa -implicitDefEqProofs only [RC] using hr
  | .und, cs, hr => by simpa -implicitDefEqProofs only [RC] using hr
theorem RCf.later (h : Later w F β w' F' β') : ∀ (ss : List Nat) (fs : List AV) (cs : List Value), RCf num w F β ss fs cs → RCf num w' F' β' ss fs cs
  | [], [], cs, hr => by simpa -implicitDefEqProofs only [RCf] using hr
  | n :: ss, f :: fs, cs, hr => by
    simp -implicitDefEqProofs only [RCf] at hr ⊢
    obtain ⟨c1, c2, h1, h2, h3, h4⟩ := hr
    exact ⟨c1, c2, h1, h2, RC.later h f c1 h3, RCf.later h ss fs c2 h4⟩
  | [], _ :: _, cs, hr => by simp -implicitDefEqProofs only [RCf] at hr
  | _ :: _, [], cs, hr => by simp -implicitDefEqProofs only [RCf] at hr
theorem RCk.later (h : Later w F β w' F' β') : ∀ (k : Nat) (xs : List AV) (cs : List Value), RCk num w F β k xs cs → RCk num w' F' β' k xs cs
  | k, [], cs, hr => by simpa -implicitDefEqProofs only [RCk] using hr
  | k, x :: xs, cs, hr => by
    simp -implicitDefEqProofs only [RCk] at hr ⊢
    obtain ⟨c1, c2, h1, h2, h3, h4⟩ := hr
    exact ⟨c1, c2, h1, h2, RC.later h x c1 h3, RCk.later h k xs c2 h4⟩
theorem RCv.later (h : Later w F β w' F' β') : ∀ (as : List AV) (vs : List Value), RCv num w F β as vs → RCv num w' F' β' as vs
  | [], vs, hr => by simpa -implicitDefEqProofs only [RCv] using hr
  | .und :: as, vs, hr => by
    simp -implicitDefEqProofs only [RCv] at hr ⊢
    obtain ⟨r, h1, h2⟩ := hr
    exact ⟨r, h1, RCv.later h as r h2⟩
  | .tup bs :: as, vs, hr => by
    simp -implicitDefEqProofs only [RCv] at hr ⊢
    obtain ⟨v, r, h1, h2, h3⟩ := hr
    exact ⟨v, r, h1, RCv.later h bs _ h2, RCv.later h as r h3⟩
  | .v x :: as, vs, hr => by
    simp -implicitDefEqProofs only [RCv] at hr ⊢
    obtain ⟨v, r, cs, h1, h2, h3, h4⟩ := hr
    exact ⟨v, r, cs, h1, h2, RC.later h (.v x) _ h3, RCv.later h as r h4⟩
  | .agg ss fs :: as, vs, hr => by
    simp -implicitDefEqProofs only [RCv] at hr ⊢
    obtain ⟨v, r, cs, h1, h2, h3, h4⟩ := hr
    exact ⟨v, r, cs, h1, h2, RC.later h (.agg ss fs) _ h3, RCv.later h as r h4⟩
  | .sl k xs :: as, vs, hr => by
    simp -implicitDefEqProofs only [RCv] at hr ⊢
    obtain ⟨v, r, cs, h1, h2, h3, h4⟩ := hr
    exact ⟨v, r, cs, h1, h2, RC.later h (.sl k xs) _ h3, RCv.later h as r h4⟩
  | .fn f caps :: as, vs, hr => by
    simp -implicitDefEqProofs only [RCv] at hr ⊢
    obtain ⟨v, r, cs, h1, h2, h3, h4⟩ := hr
    exact ⟨v, r, cs, h1, h2, RC.later h (.fn f caps) _ h3, RCv.later h as r h4⟩
  | .cptr x :: as, vs, hr => by
    simp -implicitDefEqProofs only [RCv] at hr ⊢
    obtain ⟨v, r, cs, h1, h2, h3, h4⟩ := hr
    exact ⟨v, r, cs, h1, h2, RC.later h (.cptr x) _ h3, RCv.later h as r h4⟩
  | .ptr p g path off :: as, vs, hr => by
    simp -implicitDefEqProofs only [RCv] at hr ⊢
    obtain ⟨v, r, cs, h1, h2, h3, h4⟩ := hr
    exact ⟨v, r, cs, h1, h2, RC.later h (.ptr p g path off) _ h3, RCv.later h as r h4⟩
  | .own p g k off n :: as, vs, hr => by
    simp -implicitDefEqProofs only [RCv] at hr ⊢
    obtain ⟨v, r, cs, h1, h2, h3, h4⟩ := hr
    exact ⟨v, r, cs, h1, h2, RC.later h (.own p g k off n) _ h3, RCv.later h as r h4⟩
  | .mp p g :: as, vs, hr => by
    simp -implicitDefEqProofs only [RCv] at hr ⊢
    obtain ⟨v, r, cs, h1, h2, h3, h4⟩ := hr
    exact ⟨v, r, cs, h1, h2, RC.later h (.mp p g) _ h3, RCv.later h as r h4⟩
  | .yl p g :: as, vs, hr => by
    simp -implicitDefEqProofs only [RCv] at hr ⊢
    obtain ⟨v, r, cs, h1, h2, h3, h4⟩ := hr
    exact ⟨v, r, cs, h1, h2, RC.later h (.yl p g) _ h3, RCv.later h as r h4⟩
  | .nil :: as, vs, hr => by
    simp -implicitDefEqProofs only [RCv] at hr ⊢
    obtain ⟨v, r, cs, h1, h2, h3, h4⟩ := hr
    exact ⟨v, r, cs, h1, h2, RC.later h (.nil) _ h3, RCv.later h as r h4⟩
  | .e0 :: as, vs, hr => by
    simp -implicitDefEqProofs only [RCv] at hr ⊢
    obtain ⟨v, r, cs, h1, h2, h3, h4⟩ := hr
    exact ⟨v, r, cs, h1, h2, RC.later h (.e0) _ h3, RCv.later h as r h4⟩
end
theorem RX.later (h : Later w F β w' F' β') {a : AV} {v : Value} (hr : RX num w F β a v) : RX num w' F' β' a v := by
  unfold RX at hr ⊢
  cases a with
  | und => trivial
  | tup as => obtain ⟨vs, h1, h2⟩ := hr; exact ⟨vs, h1, RCv.later h _ _ h2⟩
  | _ => obtain ⟨cs, h1, h2⟩ := hr; exact ⟨cs, h1, RC.later h _ _ h2⟩
end
end Go.Fw
