import Derived.Test.YtniofejaoleipaaGreatDoorFwPure
/-
  Parts of values, and where they lie.
-/
namespace Go.Fw
variable [YI]
section
variable {P : Program} {num : Nat → FuncId} {w : World} {F : Nat → Prop} {β : Beta}

omit [YI] in
theorem RCf_get : ∀ (ss : List Nat) (fs : List AV) (cs : List Value) (i : Nat) (f : AV), RCf num w F β ss fs cs → fs[i]? = some f →
    ∃ pre c post, cs = pre ++ c ++ post ∧ pre.length = offN ss i ∧ RC num w F β f c ∧ ss[i]? = some c.length
  | [], [], _, _, _, _, hi => by simp at hi
  | n :: ss, g :: fs, cs, i, f, h, hi => by
    unfold RCf at h
    obtain ⟨c1, c2, rfl, h2, h3, h4⟩ := h
    cases i with
    | zero =>
      simp only [List.getElem?_cons_zero, Option.some.injEq] at hi
      subst hi
      exact ⟨[], c1, c2, by simp, by simp [offN], h3, by simp [h2]⟩
    | succ i =>
      simp only [List.getElem?_cons_succ] at hi
      obtain ⟨pre, c, post, rfl, h6, h7, h8⟩ := RCf_get ss fs c2 i f h4 hi
      exact ⟨c1 ++ pre, c, post, by simp, by simp [offN, h2, h6], h7, by simpa using h8⟩
  | [], _ :: _, _, _, _, h, _ => by unfold RCf at h; exact h.elim
  | _ :: _, [], _, _, _, h, _ => by unfold RCf at h; exact h.elim

omit [YI] in
theorem RCk_get (k : Nat) : ∀ (xs : List AV) (cs : List Value) (i : Nat) (x : AV), RCk num w F β k xs cs → xs[i]? = some x →
    ∃ pre c post, cs = pre ++ c ++ post ∧ pre.length = i * k ∧ RC num w F β x c ∧ c.length = k
  | [], _, _, _, _, hi => by simp at hi
  | g :: xs, cs, i, x, h, hi => by
    unfold RCk at h
    obtain ⟨c1, c2, rfl, h2, h3, h4⟩ := h
    cases i with
    | zero =>
      simp only [List.getElem?_cons_zero, Option.some.injEq] at hi
      subst hi
      exact ⟨[], c1, c2, by simp, by simp, h3, h2⟩
    | succ i =>
      simp only [List.getElem?_cons_succ] at hi
      obtain ⟨pre, c, post, rfl, h6, h7, h8⟩ := RCk_get k xs c2 i x h4 hi
      refine ⟨c1 ++ pre, c, post, by simp, ?_, h7, h8⟩
      rw [List.length_append, h2, h6, Nat.succ_mul, Nat.add_comm]

omit [YI] in
theorem add_plain {a : Addr} (h : a.spot = none) (n : Nat) : a.add n = ⟨a.block, a.off + n, none⟩ := by
  unfold Addr.add
  split
  · rename_i hn; subst hn; cases a; simp_all
  · rfl

omit [YI] in
theorem add_block (a : Addr) (n : Nat) : (a.add n).block = a.block := by
  unfold Addr.add
  split <;> rfl

omit [YI] in
theorem Row.part {a : Addr} {pre c post : List Value} (h : Row w F a (pre ++ c ++ post)) : Row w F (a.add pre.length) c := by
  obtain ⟨h1, h2, h3⟩ := h
  have hne : c ≠ [] → pre ++ c ++ post ≠ [] := fun hc e => hc (by simp only [List.append_eq_nil_iff] at e; exact e.1.2)
  refine ⟨fun hc => ?_, fun hc => ?_, fun j u hj => ?_⟩
  · rw [add_plain (h1 (hne hc))]
  · rw [add_block]; exact h2 (hne hc)
  · have hlt : j < c.length := (List.getElem?_eq_some_iff.1 hj).1
    have hc : c ≠ [] := fun e => by rw [e] at hlt; simp at hlt
    have hs := h1 (hne hc)
    have := h3 (pre.length + j) u (by
      rw [List.append_assoc, List.getElem?_append_right (by omega), List.getElem?_append_left (by omega)]
      rw [← hj]; congr 1; omega)
    rw [add_plain hs] at this
    rw [add_plain hs, add_plain rfl]
    simpa [Nat.add_assoc] using this
end
end Go.Fw
