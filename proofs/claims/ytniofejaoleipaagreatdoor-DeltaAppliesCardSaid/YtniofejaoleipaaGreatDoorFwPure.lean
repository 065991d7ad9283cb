import Derived.Test.YtniofejaoleipaaGreatDoorFwStep
import Derived.Laws.StructEq
/-
  Operations that look at no object.
-/
namespace Go.Fw
variable [YI]
section
variable {P : Program} {num : Nat → FuncId} {w : World} {F : Nat → Prop} {β : Beta}

omit [YI] in
theorem RX.atom_inv {x : Value} {v : Value} (h : RX num w F β (.v x) v) : v = x := by
  obtain ⟨cs, h1, h2⟩ := h
  unfold RC at h2
  rcases h1 with ⟨_, h1⟩ | ⟨rfl, _⟩
  · simp [AV.isAgg] at h1
  · simpa using h2.1
omit [YI] in
theorem RX.of_atom {x : Value} (h : atom x = true) : RX num w F β (.v x) x :=
  ⟨#[x], .inr ⟨rfl, rfl⟩, by unfold RC; exact ⟨rfl, h⟩⟩

omit [YI] in
theorem beq_toList (a b : ByteArray) : (a.toList == b.toList) = decide (a = b) := by
  rw [ByteArray.toList_eq, ByteArray.toList_eq]
  by_cases h : a = b
  · subst h; simp
  · have : a.data ≠ b.data := fun e => h (ByteArray.ext e)
    simp [h, this]

omit [YI] in
/-- Whole numbers, strings. -/
theorem abin_run (op : BinOp) (t : TypeId) (a b r : AV) (x y : Value) (ha : RX num w F β a x) (hb : RX num w F β b y)
    (h : abin op a b = some r) : ∃ v, (binOp op t x y).run P w = .ok v w ∧ RX num w F β r v := by
  unfold abin at h
  · split at h
    · rename_i k p k' q
      have e1 := ha.atom_inv
      have e2 := hb.atom_inv
      subst e1
      subst e2
      split at h
      · split at h
        · rename_i hy
          cases h
          refine ⟨_, ?_, RX.of_atom rfl⟩
          have : ¬ q < 0 := by omega
          have hm : min q.toNat k.bits = q.toNat := by omega
          simp [binOp, Op.shift, this, hm]
        · cases h
      · split at h
        · rename_i hy
          cases h
          refine ⟨_, ?_, RX.of_atom rfl⟩
          have : ¬ q < 0 := by omega
          have hm : min q.toNat k.bits = q.toNat := by omega
          simp [binOp, Op.shift, this, hm]
        · cases h
      · split at h
        · rename_i hk
          subst hk
          split at h <;> first | (cases h; done) | skip
          all_goals first
            | (cases h
               refine ⟨_, ?_, RX.of_atom rfl⟩
               simp [binOp, Op.intArith, Op.intBits, Op.intCmp]
               done)
            | (split at h
               · cases h
               · rename_i hq
                 cases h
                 refine ⟨_, ?_, RX.of_atom rfl⟩
                 simp [binOp, Op.intDiv, hq])
        · cases h
    · rename_i s u
      have e1 := ha.atom_inv
      have e2 := hb.atom_inv
      subst e1
      subst e2
      split at h
      · split at h
        · rename_i hs
          cases h
          refine ⟨_, ?_, RX.of_atom rfl⟩
          simp [binOp, Op.stringOp]
          omega
        · cases h
      · cases h
        refine ⟨_, ?_, RX.of_atom rfl⟩
        simp [binOp, Op.stringOp, beq_toList]
      · cases h
        refine ⟨_, ?_, RX.of_atom rfl⟩
        simp [binOp, Op.stringOp, beq_toList]
      · cases h
        refine ⟨_, ?_, RX.of_atom rfl⟩
        simp [binOp, Op.stringOp, ByteArray.toList_eq]
      · cases h
        refine ⟨_, ?_, RX.of_atom rfl⟩
        simp only [binOp, Op.stringOp, beq_toList]
        simp [ByteArray.toList_eq]
      · cases h
    · cases h

omit [YI] in
theorem aun_run (op : UnOp) (a r : AV) (x : Value) (ha : RX num w F β a x) (h : aun op a = some r) : ∃ v, (Op.unary op x).run P w = .ok v w ∧ RX num w F β r v := by
  unfold aun at h
  split at h
  · have := ha.atom_inv
    subst this
    cases h
    refine ⟨_, ?_, RX.of_atom rfl⟩
    simp [Op.unary]
  · have := ha.atom_inv
    subst this
    cases h
    refine ⟨_, ?_, RX.of_atom rfl⟩
    simp [Op.unary, Op.intArith]
  · cases h

omit [YI] in
theorem convV_run {src dst : TypeId} {k : IntKind} {d : TypeDesc} (hs : P.underlying src = some d) (hd : P.underlying dst = some (.int k)) (a r : AV) (x : Value) (ha : RX num w F β a x) (h : convV k a = some r) :
    ∃ v, (convert src dst x).run P w = .ok v w ∧ RX num w F β r v := by
  unfold convV at h
  split at h
  · have := ha.atom_inv
    subst this
    cases h
    refine ⟨_, ?_, RX.of_atom rfl⟩
    simp [convert, run_underlying hs, run_underlying hd, Conv.intToInt]
  · cases h

omit [YI] in
theorem RCv_get : ∀ (as : List AV) (vs : List Value) (i : Nat) (a : AV), RCv num w F β as vs → as[i]? = some a → ∃ v, vs[i]? = some v ∧ RX num w F β a v
  | [], _, _, _, _, hi => by simp at hi
  | b :: as, vs, i, a, h, hi => by
    obtain ⟨v, r, rfl, h2, h4⟩ := RCv_cons.1 h
    cases i with
    | zero =>
      simp only [List.getElem?_cons_zero, Option.some.injEq] at hi
      subst hi
      exact ⟨v, rfl, h2⟩
    | succ i =>
      simp only [List.getElem?_cons_succ] at hi
      obtain ⟨u, h5, h6⟩ := RCv_get as r i a h4 hi
      exact ⟨u, by simpa using h5, h6⟩

omit [YI] in
theorem extrV_run (i : Nat) (a r : AV) (x : Value) (ha : RX num w F β a x) (h : extrV a i = some r) : ∃ v, (Instr.extract x i).run P w = .ok v w ∧ RX num w F β r v := by
  unfold extrV at h
  split at h
  · obtain ⟨vs, rfl, h2⟩ := ha
    obtain ⟨v, h3, h4⟩ := RCv_get _ _ _ _ h2 h
    have h5 : vs[i]? = some v := by simpa using h3
    exact ⟨v, by simp [Instr.extract, h5], h4⟩
  · cases h
end
end Go.Fw
