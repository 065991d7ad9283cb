import Derived.Test.YtniofejaoleipaaGreatDoorFwCore
namespace Go.Fw

theorem clash_mono {un : List (Nat × Nat)} {acc : List (Nat × List Nat × List Nat)} {j : Nat} {r w : List Nat} {K K' : Prop} (h : K → K') (hc : clash un acc j r w K) : clash un acc j r w K' := by
  unfold clash at *
  cases un with
  | nil => exact h hc
  | cons => exact ⟨hc.1, h hc.2⟩
theorem clash_and {un : List (Nat × Nat)} {acc : List (Nat × List Nat × List Nat)} {j : Nat} {r w : List Nat} {K1 K2 K : Prop} (h : K1 → K2 → K)
    (h1 : clash un acc j r w K1) (h2 : clash un acc j r w K2) : clash un acc j r w K := by
  unfold clash at *
  cases un with
  | nil => exact h h1 h2
  | cons => exact ⟨h1.1, h h1.2 h2.2⟩
theorem clash_out {un : List (Nat × Nat)} {acc : List (Nat × List Nat × List Nat)} {j : Nat} {r w : List Nat} {K : Prop} (hc : clash un acc j r w K) : K := by
  unfold clash at *
  cases un with
  | nil => exact hc
  | cons => exact hc.2

theorem wpOps_mono {S S' : Job → Prop} (hS : ∀ J, S J → S' J) {un : List (Nat × Nat)} {t0 : Nat} :
    ∀ (is : List Ins) (j : Nat) (acc : List (Nat × List Nat × List Nat)) (st : St) (Q Q' : St → Prop), (∀ st, Q st → Q' st) →
      wpOps S un t0 is j acc st Q → wpOps S' un t0 is j acc st Q' := by
  intro is
  induction is with
  | nil => intro j acc st Q Q' hQ h; exact hQ _ h
  | cons i r ih =>
    intro j acc st Q Q' hQ h
    unfold wpOps at h ⊢
    split at h
    · exact h.elim
    · exact ih _ _ _ _ _ hQ h
    · cases i with
      | m dst gd o =>
        simp only at h ⊢
        split at h
        · exact h.elim
        · exact ih _ _ _ _ _ hQ h
      | p dst gd o =>
        simp only at h ⊢
        split at h
        · exact h.elim
        · exact ih _ _ _ _ _ hQ h
      | r dst gd o =>
        simp only at h ⊢
        split at h
        · exact h.elim
        · exact clash_mono (ih _ _ _ _ _ hQ) h
      | w dst gd o =>
        simp only at h ⊢
        split at h
        · exact h.elim
        · exact clash_mono (ih _ _ _ _ _ hQ) h
      | fin gd n s y =>
        simp only at h ⊢
        split at h
        · split at h
          · exact h.elim
          · exact clash_mono (ih _ _ _ _ _ hQ) h
        · exact h.elim
      | call dst gd f args res =>
        cases res with
        | frz ks =>
          simp only at h ⊢
          split at h
          · refine clash_mono ?_ h
            rintro ⟨h0, R, h2, h3⟩
            exact ⟨h0, R, hS _ h2, ih _ _ _ _ _ hQ h3⟩
          · exact h.elim
        | own p k =>
          simp only at h ⊢
          split at h
          · refine ⟨h.1, clash_mono ?_ h.2⟩
            rintro ⟨h0, R, h2, h3⟩
            exact ⟨h0, R, hS _ h2, ih _ _ _ _ _ hQ h3⟩
          · exact h.elim
      | calli dst gd f args =>
        simp only at h ⊢
        split at h
        · obtain ⟨h1, R, h2, h3⟩ := h
          exact ⟨h1, R, hS _ h2, ih _ _ _ _ _ hQ h3⟩
        · exact h.elim
      | cally dst gd x args =>
        simp only at h ⊢
        split at h
        · split at h
          · obtain ⟨h1, q, h2, h3⟩ := h
            refine ⟨h1, q, hS _ h2, ?_⟩
            split at h3
            · rename_i hc; exact ih _ _ _ _ _ hQ h3
            · exact h3.elim
          · exact h.elim
        · exact h.elim

theorem wpS_mono {S S' : Job → Prop} (hS : ∀ J, S J → S' J) :
    ∀ (c : ACode) (st : St) (Q Q' : Ex → St → Prop), (∀ e st, Q e st → Q' e st) → wpS S c st Q → wpS S' c st Q' := by
  intro c
  induction c with
  | skip => intro st Q Q' hQ h; exact hQ _ _ h
  | seq a b iha ihb =>
    intro st Q Q' hQ h
    refine iha _ _ _ (fun e st' h' => ?_) h
    cases e with
    | nrm => exact ihb _ _ _ hQ h'
    | ret => exact hQ _ _ h'
    | exit id => exact hQ _ _ h'
  | reg is un => intro st Q Q' hQ h; exact wpOps_mono hS _ _ _ _ _ _ (fun _ h => hQ _ _ h) h
  | cond x a b iha ihb =>
    intro st Q Q' hQ h
    unfold wpS at h ⊢
    split at h
    · cases ‹Bool› with
      | true => exact iha _ _ _ hQ h
      | false => exact ihb _ _ _ hQ h
    · exact h.elim
  | blk id c ih =>
    intro st Q Q' hQ h
    refine ih _ _ _ (fun e st' h' => ?_) h
    cases e with
    | nrm => exact hQ _ _ h'
    | ret => exact hQ _ _ h'
    | exit id' =>
      simp only at h' ⊢
      split at h'
      · rename_i he; simp only [he, if_true]; exact hQ _ _ h'
      · rename_i he; simp only [he, if_false]; exact hQ _ _ h'
  | loop c ih =>
    intro st Q Q' hQ h
    obtain ⟨R, h1, h2⟩ := h
    exact ⟨R, hS _ h1, fun e st' hr => hQ _ _ (h2 e st' hr)⟩
  | exit id => intro st Q Q' hQ h; exact hQ _ _ h
  | ret => intro st Q Q' hQ h; exact hQ _ _ h
  | keep ss ps => intro st Q Q' hQ h; exact hQ _ _ h
  | sub c ih => intro st Q Q' hQ h; exact ih _ _ _ hQ h
  | rng x J f slots =>
    intro st Q Q' hQ h
    unfold wpS at h ⊢
    split at h
    · obtain ⟨h1, q, h2, h3⟩ := h
      refine ⟨h1, q, hS _ h2, ?_⟩
      split at h3
      · exact hQ _ _ h3
      · exact hQ _ _ h3
      · exact h3.elim
    · exact h.elim
  | rnd ss a c iha ihc =>
    intro st Q Q' hQ h
    unfold wpS at h ⊢
    split at h
    · refine iha _ _ _ (fun e st' h' => ?_) h
      cases e with
      | nrm => exact ihc _ _ _ (fun e st'' h'' => hQ _ _ h'') h'
      | ret => exact h'.elim
      | exit n => exact h'.elim
    · exact h.elim
  | stop => intro st Q Q' hQ h; exact h.elim
  | frz s =>
    intro st Q Q' hQ h
    unfold wpS at h ⊢
    split at h
    · split at h
      · exact hQ _ _ h
      · exact h.elim
    · exact h.elim

/-- The library's functions are monotone in what is asked of them. -/
def ExtMono (T : Nat → Option ADef) : Prop :=
  ∀ f e, T f = some (.ext e) → ∀ args ob tk (R R' : AV → Ob → Nat → Prop), (∀ a ob' tk', R a ob' tk' → R' a ob' tk') → e args ob tk R → e args ob tk R'

variable {T : Nat → Option ADef}

theorem stepJ_mono {S S' : Job → Prop} (hS : ∀ J, S J → S' J) (J : Job) (h : stepJ T S J) : stepJ T S' J := by
  cases J with
  | call f args ob tk R =>
    simp only [stepJ] at h ⊢
    cases hf : T f with
    | none => rw [hf] at h; exact h.elim
    | some d =>
      rw [hf] at h
      cases d with
      | code fn => exact ⟨h.1, wpS_mono hS _ _ _ _ (fun _ _ h => h) h.2⟩
      | ext e => exact h
  | loop c st Q =>
    refine wpS_mono hS _ _ _ _ (fun e st' h' => ?_) h
    cases e with
    | nrm => exact hS _ h'
    | ret => exact h'
    | exit id => exact h'

theorem Holds.in {J : Job} (h : stepJ T (Holds T) J) : Holds T J := fun S hS =>
  hS J (stepJ_mono (fun _ hJ => hJ S hS) J h)

theorem Holds.out {J : Job} (h : Holds T J) : stepJ T (Holds T) J :=
  h (fun J => stepJ T (Holds T) J) fun J hJ => stepJ_mono (fun _ h' => Holds.in h') J hJ

theorem Holds.iff {J : Job} : Holds T J ↔ stepJ T (Holds T) J := ⟨Holds.out, Holds.in⟩

/-- To show that all that holds has a property. -/
theorem Holds.ind {S : Job → Prop} (hS : ∀ J, stepJ T (fun J => Holds T J ∧ S J) J → S J) {J : Job} (h : Holds T J) : S J := by
  have : Holds T J ∧ S J := h (fun J => Holds T J ∧ S J) fun J hJ => ⟨.in (stepJ_mono (fun _ h => h.1) J hJ), hS J hJ⟩
  exact this.2

/-- Jobs are monotone in what is asked. -/
def Job.weak : Job → Job → Prop
  | .call f args ob tk R, .call f' args' ob' tk' R' => f = f' ∧ args = args' ∧ ob = ob' ∧ tk = tk' ∧ ∀ a o t, R a o t → R' a o t
  | .loop c st Q, .loop c' st' Q' => c = c' ∧ st = st' ∧ ∀ e s, Q e s → Q' e s
  | _, _ => False

theorem Holds.weak (hT : ExtMono T) {J J' : Job} (h : Holds T J) (hw : J.weak J') : Holds T J' := by
  have key : ∀ J', Job.weak J J' → Holds T J' := by
    refine Holds.ind (S := fun J => ∀ J', Job.weak J J' → Holds T J') ?_ h
    intro J hJ J' hw
    cases J with
    | call f args ob tk R =>
      cases J' with
      | loop => exact hw.elim
      | call f' args' ob' tk' R' =>
        obtain ⟨rfl, rfl, rfl, rfl, hR⟩ := hw
        refine .in ?_
        simp only [stepJ] at hJ ⊢
        cases hf : T f with
        | none => rw [hf] at hJ; exact hJ.elim
        | some d =>
          rw [hf] at hJ
          cases d with
          | code fn =>
            refine ⟨hJ.1, wpS_mono (fun _ h => h.1) _ _ _ _ (fun e st h => ⟨h.1, ?_⟩) hJ.2⟩
            obtain ⟨a, ha, hr⟩ := h.2
            exact ⟨a, ha, hR _ _ _ hr⟩
          | ext e => exact hT _ _ hf _ _ _ _ _ hR hJ
    | loop c st Q =>
      cases J' with
      | call => exact hw.elim
      | loop c' st' Q' =>
        obtain ⟨rfl, rfl, hQ⟩ := hw
        refine .in ?_
        refine wpS_mono (S := fun J => Holds T J ∧ ∀ J', Job.weak J J' → Holds T J') (fun _ h => h.1) _ _ _ _ (fun e st' h => ?_) hJ
        cases e with
        | nrm => exact h.2 _ ⟨rfl, rfl, hQ⟩
        | ret => exact hQ _ _ h
        | exit id => exact hQ _ _ h
  exact key J' hw

end Go.Fw
