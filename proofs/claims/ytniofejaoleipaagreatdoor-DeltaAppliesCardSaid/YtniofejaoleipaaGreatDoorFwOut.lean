import Derived.Test.YtniofejaoleipaaGreatDoorFwData
/-
  Outcomes: that a piece of code comes to one of certain ends.
-/
namespace Go.Fw
variable {T : Nat → Option ADef}

/-- X comes to an end among S. -/
def Outs (X : (Ex → St → Prop) → Prop) (S : Ex → St → Prop) : Prop := ∃ e s, S e s ∧ ∀ Q, Q e s → X Q

theorem outs_q {S : Ex → St → Prop} {e : Ex} {s : St} (h : S e s) : Outs (fun Q => Q e s) S := ⟨e, s, h, fun _ h => h⟩
theorem outs_ite {S : Ex → St → Prop} {c : Prop} [Decidable c] {A B : (Ex → St → Prop) → Prop} (ha : c → Outs A S) (hb : ¬ c → Outs B S) : Outs (fun Q => if c then A Q else B Q) S := by
  by_cases h : c
  · obtain ⟨e, s, h1, h2⟩ := ha h
    exact ⟨e, s, h1, fun Q hq => by show (if c then A Q else B Q); rw [if_pos h]; exact h2 Q hq⟩
  · obtain ⟨e, s, h1, h2⟩ := hb h
    exact ⟨e, s, h1, fun Q hq => by show (if c then A Q else B Q); rw [if_neg h]; exact h2 Q hq⟩
theorem outs_loop {c : ACode} {st : St} {S : Ex → St → Prop} (h : Outs (fun Q => wpU T c st (loopK T c Q)) S) : Outs (fun Q => Holds T (.loop c st Q)) S := by
  obtain ⟨e, s, h1, h2⟩ := h
  exact ⟨e, s, h1, fun Q hq => loop_step (h2 Q hq)⟩
theorem outs_bind {X : (Ex → St → Prop) → Prop} {K : (Ex → St → Prop) → Ex → St → Prop} {S S' : Ex → St → Prop} (h : Outs X S') (hk : ∀ e s, S' e s → Outs (fun Q => K Q e s) S) : Outs (fun Q => X (K Q)) S := by
  obtain ⟨e, s, h1, h2⟩ := h
  obtain ⟨e', s', h3, h4⟩ := hk e s h1
  exact ⟨e', s', h3, fun Q hq => h2 _ (h4 Q hq)⟩
theorem outs_mono {X : (Ex → St → Prop) → Prop} {S S' : Ex → St → Prop} (h : Outs X S) (hs : ∀ e s, S e s → S' e s) : Outs X S' := by
  obtain ⟨e, s, h1, h2⟩ := h
  exact ⟨e, s, hs e s h1, h2⟩
/-- At a call's end. -/
def EndZ (fn : AFun) (ks : List Nat) (P : AV → Prop) (e : Ex) (s : St) : Prop := (e = .nrm ∨ e = .ret) ∧ ∃ a b, fn.result s = some a ∧ frozen s.ob ks a = some b ∧ P b
theorem outs_call (hT : ExtOk T) {f : Nat} {fn : AFun} {args : List AV} {ob : Ob} {ks : List Nat} {P : AV → Prop} (hf : T f = some (.code fn)) (hn : args.length = fn.np) (h0 : argsB ob 1 args = true)
    (h : Outs (fun Q => wpU T fn.body ⟨envOf 0 args, ob, 1⟩ Q) (EndZ fn ks P)) : ∃ b, P b ∧ retZ T f args ob ks = some b := by
  obtain ⟨e, s, ⟨h1, a, b, h2, h3, h4⟩, h5⟩ := h
  refine ⟨b, h4, retZ_of hT hf hn h0 (h5 _ ?_)⟩
  rcases h1 with rfl | rfl
  · simp [retK, h2, h3]
  · simp [retK, h2, h3]

theorem run_app_own {p k lim g q g' n : Nat} {ob : Ob} {xs ys : List AV} (h1 : lk ob q = some (g', .arr k xs)) (h2 : n ≤ xs.length) (h3 : n + ys.length ≤ lim) :
    (appV p k lim g (.own q g' k 0 n) (.sl k ys)).run ob = some (.own q g k 0 (n + ys.length), [.o q g (.arr k (xs.take n ++ ys))]) := by
  simp [appV, AV.appElems, AV.elems, MO.bind, MO.run, h1, h2, h3]
theorem take_map_succ {α β : Type} (f : α → β) (l : List α) (n : Nat) (x : α) (h : l[n]? = some x) : (l.map f).take n ++ [f x] = (l.map f).take (n + 1) := by
  rw [List.take_add_one]
  simp [h]
theorem outs_callI (hT : ExtOk T) {f : Nat} {fn : AFun} {args : List AV} {ob : Ob} {tk : Nat} {P : AV × Ob × Nat → Prop} (hf : T f = some (.code fn)) (hn : args.length = fn.np)
    (h : Outs (fun Q => wpU T fn.body ⟨envOf 0 args, ob, tk⟩ Q) (fun e s => (e = .nrm ∨ e = .ret) ∧ ∃ a, fn.result s = some a ∧ P (a, s.ob, s.tk))) : ∃ r, P r ∧ retI T f args ob tk = some r := by
  obtain ⟨e, s, ⟨h1, a, h2, h3⟩, h4⟩ := h
  refine ⟨_, h3, retI_of hT hf hn (h4 _ ?_)⟩
  rcases h1 with rfl | rfl
  · simp [retK, h2]
  · simp [retK, h2]
theorem andA_if (b : Bool) (acc : Acc) (A : (AV → Acc → Prop) → Prop) (J : AV → Acc → Prop) : andA (.v (.bool b)) acc A J = if b = true then A J else J (.v (.bool false)) acc := by
  cases b <;> rfl
theorem orA_if (b : Bool) (acc : Acc) (A : (AV → Acc → Prop) → Prop) (J : AV → Acc → Prop) : orA (.v (.bool b)) acc A J = if b = true then J (.v (.bool true)) acc else A J := by
  cases b <;> rfl
theorem ress_pure {ob : Ob} {d : Nat} : ∀ {l : List AV}, AV.pureBs l = true → AV.ress ob d l = some l
  | [], _ => rfl
  | a :: r, h => by
    unfold AV.pureBs at h
    simp only [Bool.and_eq_true] at h
    rw [AV.ress_cons, AV.res_eq, if_pos h.1, ress_pure h.2]
theorem frozen_own {ob : Ob} {ks : List Nat} {p g k n : Nat} {xs : List AV} (hl : lk ob p = some (g, .arr k xs)) (hn : n = xs.length) (hp : AV.pureBs xs = true) : frozen ob ks (.own p g k 0 n) = some (.sl k xs) := by
  subst hn
  show AV.res ob 5 (.own p g k 0 xs.length) = _
  rw [AV.res_eq, if_neg (by simp [AV.pureB])]
  show AV.res' ob 5 (.own p g k 0 xs.length) = _
  rw [AV.res_succ]
  simp [hl, ress_pure hp]
theorem frozen_tup {ob : Ob} {ks : List Nat} {vs us : List AV} (h : normAll ks vs = us) (hp : AV.pureBs us = true) : frozen ob ks (.tup vs) = some (.tup us) := by
  show (AV.ress ob 5 (normAll ks vs)).map AV.tup = _
  rw [h, ress_pure hp]
  rfl
theorem seen_store {ob : Ob} {n p g off : Nat} {path : List Nat} {b : AV} (h : b.size = n) : MO.seen ob (storeV n (.ptr p g path off) b) = [p] := by
  unfold storeV
  simp only [h, if_true]
  unfold MO.seen
  split
  · rename_i g' o _
    split
    · dsimp only
      cases ho : o.setAt path b with
      | none => rfl
      | some q =>
        simp only [opt_some]
        split <;> rfl
    · rfl
  · rfl
theorem seen_store1 {ob : Ob} {p g off : Nat} {path : List Nat} {x : Value} : MO.seen ob (storeV 1 (.ptr p g path off) (.v x)) = [p] := seen_store rfl
theorem inc_nat {n : Nat} (h : n < 4611686018427387904) : IntKind.i64.wrap ((n : Int) + 1) = ((n + 1 : Nat) : Int) := by
  rw [wrap_small (by omega) (by omega)]
  omega
end Go.Fw
