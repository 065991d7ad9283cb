import Derived.Test.YtniofejaoleipaaGreatDoorFwParts
/-
  Addresses and parts: the program's operations.
-/
namespace Go.Fw
variable [YI]
section
variable {P : Program} {num : Nat → FuncId} {w : World} {F : Nat → Prop} {β : Beta}

/-- A struct type laid out part behind part, none without cells. -/
def layOk (P : Program) (ss : List Nat) (fs : List Field) (i : Nat) : Bool :=
  match fs[i]?, ss[i]? with
  | some f, some n => decide (f.offset = offN ss i) && decide ((P.info? f.type).map (·.size) = some n) && decide (0 < n)
  | _, _ => false

omit [YI] in
theorem RX.one {a : AV} {v : Value} (h : RX num w F β a v) (hu : a ≠ .und) (ht : ∀ vs, a ≠ .tup vs) : ∃ cs : Array Value, (v = .agg cs ∧ a.isAgg = true ∨ cs = #[v] ∧ a.isAgg = false) ∧ RC num w F β a cs.toList := by
  cases a with
  | und => exact absurd rfl hu
  | tup vs => exact absurd rfl (ht vs)
  | _ => exact h

omit [YI] in
theorem RX.single {a : AV} {v : Value} (h : RX num w F β a v) (hu : a ≠ .und) (ht : ∀ vs, a ≠ .tup vs) (hg : a.isAgg = false) : RC num w F β a [v] := by
  obtain ⟨cs, h1, h2⟩ := h.one hu ht
  rcases h1 with ⟨_, h1⟩ | ⟨rfl, _⟩
  · rw [hg] at h1; cases h1
  · exact h2

omit [YI] in
theorem RX.of_single {a : AV} {v : Value} (h : RC num w F β a [v]) (hg : a.isAgg = false) : RX num w F β a v := by
  unfold RX
  cases a with
  | und => unfold RC at h; cases h
  | tup => unfold RC at h; cases h
  | _ => exact ⟨#[v], .inr ⟨rfl, hg⟩, h⟩

omit [YI] in
theorem faddrV_run {t : TypeId} {fs : Array Field} {ss : List Nat} {i : Nat} (hd : P.underlying t = some (.struct fs)) (hl : layOk P ss fs.toList i = true)
    (a r : AV) (x : Value) (ha : RX num w F β a x) (h : faddrV ss i a = some r) : ∃ v, (Instr.fieldAt t x i).run P w = .ok v w ∧ RX num w F β r v := by
  unfold layOk at hl
  split at hl
  case h_2 => cases hl
  rename_i f n hf hn
  simp only [Bool.and_eq_true, decide_eq_true_eq] at hl
  obtain ⟨⟨ho, hs⟩, hpos⟩ := hl
  obtain ⟨info, hinfo, hsz⟩ := Option.map_eq_some_iff.1 hs
  have hf' : fs[i]? = some f := by simpa using hf
  have hrun : ∀ ad : Addr, (Instr.fieldAt t (.pointer (some ad)) i).run P w = .ok (.pointer (some (ad.add (offN ss i)))) w := by
    intro ad
    have : ¬ n = 0 := by omega
    simp [Instr.fieldAt, run_underlying hd, hf', Instr.sureAddr, fieldPlace, sizeOf, typeInfo, hinfo, hsz, this, ho]
  unfold faddrV at h
  split at h
  · rename_i ss' gs
    split at h
    · rename_i he
      subst he
      obtain ⟨g, hg, rfl⟩ := Option.map_eq_some_iff.1 h
      have h1 := ha.single (by simp) (by simp) rfl
      unfold RC at h1
      obtain ⟨ad, ds, hx, hr, hc⟩ := h1
      simp only [List.cons.injEq, and_true] at hx
      subst hx
      unfold RC at hc
      obtain ⟨pre, c, post, rfl, h6, h7, _⟩ := RCf_get _ _ _ _ _ hc hg
      refine ⟨_, hrun ad, RX.of_single ?_ rfl⟩
      unfold RC
      exact ⟨_, c, rfl, h6 ▸ hr.part, h7⟩
    · cases h
  · rename_i p g path off
    cases h
    have h1 := ha.single (by simp) (by simp) rfl
    unfold RC at h1
    obtain ⟨b, hb, hx⟩ := h1
    simp only [List.cons.injEq, and_true] at hx
    subst hx
    refine ⟨_, hrun _, RX.of_single ?_ rfl⟩
    unfold RC
    exact ⟨b, hb, by rw [add_plain rfl]⟩
  · cases h

omit [YI] in
theorem ix_spec {j : AV} {n m : Nat} {y : Value} (hj : RX num w F β j y) (h : j.ix n = some m) : ∃ k, y = .int k (m : Int) ∧ m < n := by
  unfold AV.ix at h
  split at h
  · have := hj.atom_inv
    subst this
    split at h
    · rename_i k q hq
      cases h
      refine ⟨k, ?_, by omega⟩
      have : (q.toNat : Int) = q := by omega
      rw [this]
    · cases h
  · cases h

omit [YI] in
theorem iaddrV_run {t e : TypeId} {k : Nat} {info : TypeInfo} (hd : P.underlying t = some (.slice e)) (hi : P.info? e = some info) (hk : info.size = k)
    (a j r : AV) (x y : Value) (ha : RX num w F β a x) (hj : RX num w F β j y) (h : iaddrV k a j = some r) : ∃ v, (Instr.indexAt t x y).run P w = .ok v w ∧ RX num w F β r v := by
  have hrun : ∀ (ad : Addr) (n c m : Nat) (ik : IntKind), m < n → (Instr.indexAt t (.slice (some ad) n c) (.int ik (m : Int))).run P w = .ok (.pointer (some (ad.add (m * k)))) w := by
    intro ad n c m ik hm
    simp [Instr.indexAt, asIntOf, run_underlying hd, sizeOf, typeInfo, hi, hk]
    intro h2
    omega
  unfold iaddrV at h
  split at h
  · rename_i k' xs
    split at h
    · rename_i he
      subst he
      obtain ⟨m, hm, h⟩ := Option.bind_eq_some_iff.1 h
      obtain ⟨z, hz, rfl⟩ := Option.map_eq_some_iff.1 h
      obtain ⟨ik, rfl, hlt⟩ := ix_spec hj hm
      have h1 := ha.single (by simp) (by simp) rfl
      unfold RC at h1
      rcases h1 with ⟨_, h1⟩ | ⟨ad, cap, ds, hx, _, hr, hc⟩
      · subst h1; simp at hlt
      simp only [List.cons.injEq, and_true] at hx
      subst hx
      obtain ⟨pre, c, post, rfl, h6, h7, _⟩ := RCk_get _ _ _ _ _ hc hz
      refine ⟨_, hrun _ _ _ _ _ hlt, RX.of_single ?_ rfl⟩
      unfold RC
      exact ⟨_, c, rfl, h6 ▸ hr.part, h7⟩
    · cases h
  · rename_i p g k' off m'
    split at h
    · rename_i he
      subst he
      obtain ⟨m, hm, rfl⟩ := Option.map_eq_some_iff.1 h
      obtain ⟨ik, rfl, hlt⟩ := ix_spec hj hm
      have h1 := ha.single (by simp) (by simp) rfl
      unfold RC at h1
      rcases h1 with ⟨_, _, _, h1⟩ | ⟨b, cap, sz, hb, hx, _⟩
      · omega
      simp only [List.cons.injEq, and_true] at hx
      subst hx
      refine ⟨_, hrun _ _ _ _ _ hlt, RX.of_single ?_ rfl⟩
      unfold RC
      exact ⟨b, hb, by rw [add_plain rfl, Nat.add_mul]⟩
    · cases h
  · cases h
end
end Go.Fw
