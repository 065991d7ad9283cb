import Derived.Test.YtniofejaoleipaaGreatDoorFwInv
/-
  Operands: what the checker compares, and what follows.
-/
namespace Go.Fw
variable [YI]

def atomEq : Value → Value → Bool
  | .int j a, .int k b => decide (j = k) && decide (a = b)
  | .bool a, .bool b => a == b
  | .string a, .string b => decide (a = b)
  | .pointer none, .pointer none | .nilFunc, .nilFunc | .map none, .map none | .nilIface, .nilIface => true
  | _, _ => false

omit [YI] in
theorem atomEq_spec {a b : Value} (h : atomEq a b = true) : a = b ∧ atom a = true := by
  unfold atomEq at h
  split at h
  · simp only [Bool.and_eq_true, decide_eq_true_eq] at h; obtain ⟨rfl, rfl⟩ := h; exact ⟨rfl, rfl⟩
  · have := eq_of_beq h; subst this; exact ⟨rfl, rfl⟩
  · simp only [decide_eq_true_eq] at h; subst h; exact ⟨rfl, rfl⟩
  · exact ⟨rfl, rfl⟩
  · exact ⟨rfl, rfl⟩
  · exact ⟨rfl, rfl⟩
  · exact ⟨rfl, rfl⟩
  · cases h

mutual
/-- A constant against its cells. -/
def chkK : AV → List Value → Bool
  | .v x, [y] => atomEq x y
  | .agg ss fs, cs => chkKf ss fs cs
  | .sl _ [], [.slice none 0 0] => true
  | .nil, [.slice none 0 0] => true
  | _, _ => false
def chkKf : List Nat → List AV → List Value → Bool
  | [], [], [] => true
  | n :: ss, f :: fs, cs => decide (n ≤ cs.length) && chkK f (cs.take n) && chkKf ss fs (cs.drop n)
  | _, _, _ => false
end

section
variable {num : Nat → FuncId} {w : World} {F : Nat → Prop} {β : Beta}
omit [YI] in
mutual
theorem chkK_spec : ∀ (a : AV) (cs : List Value), chkK a cs = true → RC num w F β a cs
  | .v x, cs, h => by
    unfold chkK at h
    split at h <;> first | (cases h; done) | skip
    all_goals simp_all
    rename_i y _
    obtain ⟨rfl, h2⟩ := atomEq_spec h
    unfold RC
    exact ⟨rfl, h2⟩
  | .agg ss fs, cs, h => by
    have h' : chkKf ss fs cs = true := by
      cases cs with
      | nil => simpa only [chkK] using h
      | cons c r => cases r <;> simpa only [chkK] using h
    have := chkKf_spec ss fs cs h'
    unfold RC
    exact this
  | .sl k xs, cs, h => by
    unfold chkK at h
    split at h <;> first | (cases h; done) | skip
    all_goals simp_all
    unfold RC
    exact .inl ⟨rfl, rfl⟩
  | .nil, cs, h => by
    unfold chkK at h
    split at h <;> first | (cases h; done) | skip
    all_goals simp_all
    unfold RC
    rfl
  | .tup _, cs, h => by unfold chkK at h; simp_all
  | .fn _ _, cs, h => by unfold chkK at h; simp_all
  | .cptr _, cs, h => by unfold chkK at h; simp_all
  | .ptr .., cs, h => by unfold chkK at h; simp_all
  | .own .., cs, h => by unfold chkK at h; simp_all
  | .mp .., cs, h => by unfold chkK at h; simp_all
  | .yl .., cs, h => by unfold chkK at h; simp_all
  | .e0, cs, h => by unfold chkK at h; simp_all
  | .und, cs, h => by unfold chkK at h; simp_all
theorem chkKf_spec : ∀ (ss : List Nat) (fs : List AV) (cs : List Value), chkKf ss fs cs = true → RCf num w F β ss fs cs
  | [], [], [], _ => by unfold RCf; rfl
  | [], [], _ :: _, h => by simp [chkKf] at h
  | n :: ss, f :: fs, cs, h => by
    simp only [chkKf, Bool.and_eq_true, decide_eq_true_eq] at h
    unfold RCf
    exact ⟨cs.take n, cs.drop n, (List.take_append_drop n cs).symm, by rw [List.length_take]; omega, chkK_spec f _ h.1.2, chkKf_spec ss fs _ h.2⟩
  | [], _ :: _, cs, h => by cases cs <;> simp [chkKf] at h
  | _ :: _, [], cs, h => by cases cs <;> simp [chkKf] at h
end
end

/-- An operand against the program's. -/
def chkX (num : Nat → FuncId) : Operand → X → Bool
  | .tmp n, .s m => n == m
  | .const (.agg cs), .c a => a.isAgg && chkK a cs.toList
  | .const v, .c a => !a.isAgg && chkK a [v]
  | .func g, .c (.fn f []) => num f == g && decide (f < 1000000)
  | _, _ => false

omit [YI] in
theorem chkX_spec {num : Nat → FuncId} {w : World} {F : Nat → Prop} {β : Beta} {env : Env} {act : Act} (he : ERep num w F β env act.tmps)
    {x : Operand} {y : X} (h : chkX num x y = true) {a : AV} (ha : y.ev env = some a) : RX num w F β a (act.eval x) := by
  unfold chkX at h
  split at h
  · rename_i n m
    have := eq_of_beq h
    subst this
    obtain ⟨v, h1, h2⟩ := he n a ha
    simpa [Act.eval, Array.getD_eq_getD_getElem?, h1] using h2
  · rename_i cs b
    cases ha
    simp only [Bool.and_eq_true] at h
    have := chkK_spec (num := num) (w := w) (F := F) (β := β) _ _ h.2
    cases a <;> simp [AV.isAgg] at h
    exact ⟨cs, .inl ⟨rfl, rfl⟩, this⟩
  · rename_i v b hv
    cases ha
    simp only [Bool.and_eq_true, Bool.not_eq_true'] at h
    have := chkK_spec (num := num) (w := w) (F := F) (β := β) _ _ h.2
    unfold RX
    cases a with
    | und => trivial
    | tup => unfold chkK at h; simp_all
    | _ => exact ⟨#[v], .inr ⟨rfl, h.1⟩, this⟩
  · rename_i g f
    cases ha
    simp only [Bool.and_eq_true, beq_iff_eq, decide_eq_true_eq] at h
    obtain ⟨rfl, h0⟩ := h
    refine ⟨#[.func (.func (num f)) #[] #[]], .inr ⟨rfl, rfl⟩, ?_⟩
    unfold RC
    exact ⟨[], rfl, by unfold RCv; rfl, h0⟩
  · cases h
end Go.Fw
