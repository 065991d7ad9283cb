import Derived.Test.YtniofejaoleipaaGreatDoorFwHolds
namespace Go.Fw
variable {T : Nat → Option ADef}

/-- The library's functions: what is asked may be joined, and there is an outcome. -/
structure ExtOk (T : Nat → Option ADef) : Prop where
  mono : ExtMono T
  conj : ∀ f e, T f = some (.ext e) → ∀ args ob tk (R R' : AV → Ob → Nat → Prop), e args ob tk R → e args ob tk R' → e args ob tk fun a o t => R a o t ∧ R' a o t
  tick : ∀ f e, T f = some (.ext e) → ∀ args ob tk (R : AV → Ob → Nat → Prop), e args ob tk R → ∃ a o t, R a o t ∧ tk ≤ t

def Job.conj : Job → Job → Option Job
  | .call f args ob tk R, .call _ _ _ _ R' => some (.call f args ob tk fun a o t => R a o t ∧ R' a o t)
  | .loop c st Q, .loop _ _ Q' => some (.loop c st fun e s => Q e s ∧ Q' e s)
  | _, _ => none

def Job.same : Job → Job → Prop
  | .call f args ob tk _, .call f' args' ob' tk' _ => f = f' ∧ args = args' ∧ ob = ob' ∧ tk = tk'
  | .loop c st _, .loop c' st' _ => c = c' ∧ st = st'
  | _, _ => False

/-- Two predicates on jobs whose joined jobs hold. -/
def Joins (S1 S2 S : Job → Prop) : Prop :=
  (∀ f args ob tk R R', S1 (.call f args ob tk R) → S2 (.call f args ob tk R') → S (.call f args ob tk fun a o t => R a o t ∧ R' a o t)) ∧
  (∀ c st Q Q', S1 (.loop c st Q) → S2 (.loop c st Q') → S (.loop c st fun e s => Q e s ∧ Q' e s))

def WeakOk (S : Job → Prop) : Prop := ∀ J J', S J → J.weak J' → S J'

theorem wpOps_conj {S1 S2 S : Job → Prop} (hj : Joins S1 S2 S) (hw : WeakOk S) (hx : ∀ f args ob tk R, S (.call f args ob tk R) → ∃ a o t, R a o t) {un : List (Nat × Nat)} {t0 : Nat} :
    ∀ (is : List Ins) (j : Nat) (acc : List (Nat × List Nat × List Nat)) (st : St) (Q Q' : St → Prop),
      wpOps S1 un t0 is j acc st Q → wpOps S2 un t0 is j acc st Q' → wpOps S un t0 is j acc st fun s => Q s ∧ Q' s := by
  intro is
  induction is with
  | nil => intro j acc st Q Q' h h'; exact ⟨h, h'⟩
  | cons i r ih =>
    intro j acc st Q Q' h h'
    unfold wpOps at h h' ⊢
    cases hg : i.guardOk st.env with
    | none => rw [hg] at h; exact h.elim
    | some b =>
      rw [hg] at h h'
      cases b with
      | false => exact ih _ _ _ _ _ h h'
      | true =>
        cases i with
        | m dst gd o =>
          simp only at h h' ⊢
          cases hr : o.sem (X.ev st.env) with
          | none => rw [hr] at h; exact h.elim
          | some p => rw [hr] at h h'; exact ih _ _ _ _ _ h h'
        | p dst gd o =>
          simp only at h h' ⊢
          cases hr : o.sem (X.ev st.env) with
          | none => rw [hr] at h; exact h.elim
          | some p => rw [hr] at h h'; exact ih _ _ _ _ _ h h'
        | r dst gd o =>
          simp only at h h' ⊢
          cases hr : (o.sem (X.ev st.env)).run st.ob with
          | none => rw [hr] at h; exact h.elim
          | some p => rw [hr] at h h'; exact clash_and (ih _ _ _ _ _) h h'
        | w dst gd o =>
          simp only at h h' ⊢
          cases hr : (o.sem (X.ev st.env) (t0 + j)).run st.ob with
          | none => rw [hr] at h; exact h.elim
          | some p => rw [hr] at h h'; exact clash_and (ih _ _ _ _ _) h h'
        | fin gd n s y =>
          simp only at h h' ⊢
          cases hs : lk st.env s with
          | none => rw [hs] at h; exact h.elim
          | some a =>
            cases hy : y.ev st.env with
            | none => rw [hs, hy] at h; exact h.elim
            | some b =>
              rw [hs, hy] at h h'
              simp only at h h' ⊢
              cases hr : (finV n a b).run st.ob with
              | none => rw [hr] at h; exact h.elim
              | some p => rw [hr] at h h'; exact clash_and (ih _ _ _ _ _) h h'
        | call dst gd f args res =>
          cases res with
          | frz ks =>
            simp only at h h' ⊢
            cases hf : f.ev st.env with
            | none => rw [hf] at h; exact h.elim
            | some fc =>
              cases ha : argsOf st.env st.ob 1 args with
              | none => rw [hf, ha] at h; exact h.elim
              | some p =>
                rw [hf, ha] at h h'
                refine clash_and ?_ h h'
                rintro ⟨h0, R, h2, h3⟩ ⟨_, R', h2', h3'⟩
                have : R = R' := by
                  obtain ⟨a, o, t, hb, hb'⟩ := hx _ _ _ _ _ (hj.1 _ _ _ _ _ _ h2 h2')
                  exact Option.some.inj (hb.symm.trans hb')
                subst this
                exact ⟨h0, R, hw _ _ (hj.1 _ _ _ _ _ _ h2 h2') ⟨rfl, rfl, rfl, rfl, fun a o t h => h.1⟩, ih _ _ _ _ _ h3 h3'⟩
          | own p k =>
            simp only at h h' ⊢
            cases hf : f.ev st.env with
            | none => rw [hf] at h; exact h.elim
            | some fc =>
              cases ha : argsOf st.env st.ob 1 args with
              | none => rw [hf, ha] at h; exact h.elim
              | some p =>
                rw [hf, ha] at h h'
                refine ⟨h.1, clash_and ?_ h.2 h'.2⟩
                rintro ⟨h0, R, h2, h3⟩ ⟨_, R', h2', h3'⟩
                have : R = R' := by
                  obtain ⟨a, o, t, hb, hb'⟩ := hx _ _ _ _ _ (hj.1 _ _ _ _ _ _ h2 h2')
                  exact Option.some.inj (hb.symm.trans hb')
                subst this
                exact ⟨h0, R, hw _ _ (hj.1 _ _ _ _ _ _ h2 h2') ⟨rfl, rfl, rfl, rfl, fun a o t h => h.1⟩, ih _ _ _ _ _ h3 h3'⟩
        | calli dst gd f args =>
          simp only at h h' ⊢
          cases hf : f.ev st.env with
          | none => rw [hf] at h; exact h.elim
          | some fc =>
            cases ha : mapX (X.ev st.env) args with
            | none => rw [hf, ha] at h; exact h.elim
            | some as =>
              rw [hf, ha] at h h'
              obtain ⟨h1, R, h2, h3⟩ := h
              obtain ⟨_, R', h2', h3'⟩ := h'
              have : R = R' := by
                obtain ⟨a, o, t, hb, hb'⟩ := hx _ _ _ _ _ (hj.1 _ _ _ _ _ _ h2 h2')
                exact hb.symm.trans hb'
              subst this
              exact ⟨h1, R, hw _ _ (hj.1 _ _ _ _ _ _ h2 h2') ⟨rfl, rfl, rfl, rfl, fun a o t h => h.1⟩, ih _ _ _ _ _ h3 h3'⟩
        | cally dst gd x args =>
          simp only at h h' ⊢
          cases hf : (x.ev st.env).bind ylOf with
          | none => rw [hf] at h; exact h.elim
          | some y =>
            cases ha : mapX (X.ev st.env) args with
            | none => rw [hf, ha] at h; exact h.elim
            | some as =>
              rw [hf, ha] at h h'
              simp only at h h' ⊢
              cases hl : lpOf st.ob y.1 y.2 with
              | none => rw [hl] at h; exact h.elim
              | some fc =>
                rw [hl] at h h'
                obtain ⟨h1, R, h2, h3⟩ := h
                obtain ⟨_, R', h2', h3'⟩ := h'
                have : R = R' := by
                  obtain ⟨a, o, t, hb, hb'⟩ := hx _ _ _ _ _ (hj.1 _ _ _ _ _ _ h2 h2')
                  exact hb.symm.trans hb'
                subst this
                refine ⟨h1, R, hw _ _ (hj.1 _ _ _ _ _ _ h2 h2') ⟨rfl, rfl, rfl, rfl, fun a o t h => h.1⟩, ?_⟩
                cases hi : intOf R.1 with
                | none => rw [hi] at h3; exact h3.elim
                | some c => rw [hi] at h3 h3'; exact ih _ _ _ _ _ h3 h3'

theorem wpS_conj {S1 S2 S : Job → Prop} (hj : Joins S1 S2 S) (hw : WeakOk S) (hx : ∀ f args ob tk R, S (.call f args ob tk R) → ∃ a o t, R a o t) :
    ∀ (c : ACode) (st : St) (Q Q' : Ex → St → Prop), wpS S1 c st Q → wpS S2 c st Q' → wpS S c st fun e s => Q e s ∧ Q' e s := by
  intro c
  induction c with
  | skip => intro st Q Q' h h'; exact ⟨h, h'⟩
  | seq a b iha ihb =>
    intro st Q Q' h h'
    show wpS S a st _
    refine wpS_mono (fun _ h => h) _ _ _ _ (fun e s hh => ?_) (iha _ _ _ h h')
    cases e with
    | nrm => exact ihb _ _ _ hh.1 hh.2
    | ret => exact hh
    | exit id => exact hh
  | reg is un => intro st Q Q' h h'; exact wpOps_conj hj hw hx _ _ _ _ _ _ h h'
  | cond x a b iha ihb =>
    intro st Q Q' h h'
    unfold wpS at h h' ⊢
    split at h
    · rename_i t hx
      rw [hx] at h'
      cases t with
      | true => exact iha _ _ _ h h'
      | false => exact ihb _ _ _ h h'
    · exact h.elim
  | blk id c ih =>
    intro st Q Q' h h'
    show wpS S c st _
    refine wpS_mono (fun _ h => h) _ _ _ _ (fun e s hh => ?_) (ih _ _ _ h h')
    cases e with
    | nrm => exact hh
    | ret => exact hh
    | exit id' =>
      simp only at hh ⊢
      split
      · rename_i he; simp only [he, if_true] at hh; exact hh
      · rename_i he; simp only [he, if_false] at hh; exact hh
  | loop c ih =>
    intro st Q Q' h h'
    obtain ⟨R, h1, h2⟩ := h
    obtain ⟨R', h1', h2'⟩ := h'
    exact ⟨_, hj.2 _ _ _ _ h1 h1', fun e s hr => ⟨h2 _ _ hr.1, h2' _ _ hr.2⟩⟩
  | exit id => intro st Q Q' h h'; exact ⟨h, h'⟩
  | ret => intro st Q Q' h h'; exact ⟨h, h'⟩
  | keep ss ps => intro st Q Q' h h'; exact ⟨h, h'⟩
  | sub c ih => intro st Q Q' h h'; exact ih _ _ _ h h'
  | rng x J f slots =>
    intro st Q Q' h h'
    unfold wpS at h h' ⊢
    cases hf : (x.ev st.env).bind fnV with
    | none => rw [hf] at h; exact h.elim
    | some fc =>
      cases ha : slotsV st.env slots with
      | none => rw [hf, ha] at h; exact h.elim
      | some caps =>
        rw [hf, ha] at h h'
        obtain ⟨h1, R, h2, h3⟩ := h
        obtain ⟨_, R', h2', h3'⟩ := h'
        have : R = R' := by
          obtain ⟨a, o, t, hb, hb'⟩ := hx _ _ _ _ _ (hj.1 _ _ _ _ _ _ h2 h2')
          exact hb.symm.trans hb'
        subst this
        refine ⟨h1, R, hw _ _ (hj.1 _ _ _ _ _ _ h2 h2') ⟨rfl, rfl, rfl, rfl, fun a o t h => h.1⟩, ?_⟩
        cases hl : leftBy R.2.1 J st.tk with
        | none => rw [hl] at h3; exact h3.elim
        | some s =>
          rw [hl] at h3 h3'
          cases s with
          | none => exact ⟨h3, h3'⟩
          | some n => exact ⟨h3, h3'⟩
  | rnd ss a c iha ihc =>
    intro st Q Q' h h'
    unfold wpS at h h' ⊢
    cases he : reEnv st.env ss 0 with
    | none => rw [he] at h; exact h.elim
    | some env =>
      rw [he] at h h'
      refine wpS_mono (fun _ h => h) _ _ _ _ (fun e s hh => ?_) (iha _ _ _ h h')
      cases e with
      | nrm => exact ihc _ _ _ hh.1 hh.2
      | ret => exact hh.1
      | exit id => exact hh.1
  | stop => intro st Q Q' h h'; exact h.elim
  | frz s =>
    intro st Q Q' h h'
    unfold wpS at h h' ⊢
    cases hl : lk st.env s with
    | none => rw [hl] at h; exact h.elim
    | some a =>
      rw [hl] at h h'
      simp only at h h' ⊢
      cases hz : frzV st.ob a with
      | none => rw [hz] at h; exact h.elim
      | some r => rw [hz] at h h'; exact ⟨h, h'⟩

theorem Holds.weakOk (hT : ExtOk T) : WeakOk (Holds T) := fun _ _ h hw => h.weak hT.mono hw

/-- There is an outcome. -/
def Job.some' : Job → Prop
  | .call _ _ _ _ R => ∃ a o t, R a o t
  | .loop _ _ Q => ∃ e s, Q e s

/-- There is an outcome, with ticks that have not gone back. -/
theorem wpOps_some {S : Job → Prop} (hS : ∀ J, S J → J.some') (ht : ∀ f args ob tk R, S (.call f args ob tk R) → ∃ a o t, R a o t ∧ tk ≤ t) {un : List (Nat × Nat)} {t0 : Nat} :
    ∀ (is : List Ins) (j : Nat) (acc : List (Nat × List Nat × List Nat)) (st : St) (Q : St → Prop), wpOps S un t0 is j acc st Q → ∃ s, Q s ∧ st.tk ≤ s.tk := by
  intro is
  induction is with
  | nil => intro j acc st Q h; exact ⟨_, h, Nat.le_refl _⟩
  | cons i r ih =>
    intro j acc st Q h
    unfold wpOps at h
    split at h
    · exact h.elim
    · have := ih _ _ _ _ h; exact this
    · cases i with
      | m dst gd o =>
        simp only at h
        split at h
        · exact h.elim
        · have := ih _ _ _ _ h; exact this
      | p dst gd o =>
        simp only at h
        split at h
        · exact h.elim
        · have := ih _ _ _ _ h; exact this
      | r dst gd o =>
        simp only at h
        split at h
        · exact h.elim
        · have := ih _ _ _ _ (clash_out h); exact this
      | w dst gd o =>
        simp only at h
        split at h
        · exact h.elim
        · have := ih _ _ _ _ (clash_out h); exact this
      | fin gd n s y =>
        simp only at h
        split at h
        · split at h
          · exact h.elim
          · have := ih _ _ _ _ (clash_out h); exact this
        · exact h.elim
      | call dst gd f args res =>
        cases res with
        | frz ks =>
          simp only at h
          split at h
          · obtain ⟨_, R, h2, h3⟩ := clash_out h
            have := ih _ _ _ _ h3; exact this
          · exact h.elim
        | own p k =>
          simp only at h
          split at h
          · obtain ⟨_, R, h2, h3⟩ := clash_out h.2
            have := ih _ _ _ _ h3; exact this
          · exact h.elim
      | calli dst gd f args =>
        simp only at h
        split at h
        · obtain ⟨_, R, h2, h3⟩ := h
          obtain ⟨a, o, t, hr, hle⟩ := ht _ _ _ _ _ h2
          subst hr
          obtain ⟨s, k1, k2⟩ := ih _ _ _ _ h3
          exact ⟨s, k1, Nat.le_trans hle k2⟩
        · exact h.elim
      | cally dst gd x args =>
        simp only at h
        split at h
        · split at h
          · obtain ⟨_, R, h2, h3⟩ := h
            obtain ⟨a, o, t, hr, hle⟩ := ht _ _ _ _ _ h2
            subst hr
            split at h3
            · obtain ⟨s, k1, k2⟩ := ih _ _ _ _ h3
              exact ⟨s, k1, Nat.le_trans hle k2⟩
            · exact h3.elim
          · exact h.elim
        · exact h.elim

def Job.tkOk : Job → Prop
  | .call _ _ _ tk R => ∃ a o t, R a o t ∧ tk ≤ t
  | .loop _ st Q => ∃ e s, Q e s ∧ st.tk ≤ s.tk

theorem Job.tkOk.some {J : Job} (h : J.tkOk) : J.some' := by
  cases J with
  | call => obtain ⟨a, o, t, h, _⟩ := h; exact ⟨a, o, t, h⟩
  | loop => obtain ⟨e, s, h, _⟩ := h; exact ⟨e, s, h⟩

theorem wpS_some {S : Job → Prop} (hS : ∀ J, S J → J.tkOk) :
    ∀ (c : ACode) (st : St) (Q : Ex → St → Prop), wpS S c st Q → ∃ e s, Q e s ∧ st.tk ≤ s.tk := by
  intro c
  induction c with
  | skip => intro st Q h; exact ⟨_, _, h, Nat.le_refl _⟩
  | seq a b iha ihb =>
    intro st Q h
    obtain ⟨e, s, hh, hle⟩ := iha _ _ h
    cases e with
    | nrm =>
      obtain ⟨e', s', hh', hle'⟩ := ihb _ _ hh
      exact ⟨e', s', hh', Nat.le_trans hle hle'⟩
    | ret => exact ⟨_, s, hh, hle⟩
    | exit id => exact ⟨_, s, hh, hle⟩
  | reg is un =>
    intro st Q h
    obtain ⟨s, h1, h2⟩ := wpOps_some (fun J hJ => (hS J hJ).some) (fun f args ob tk R h => hS _ h) _ _ _ _ _ h
    exact ⟨_, s, h1, Nat.le_trans (le_nextTk _ _) h2⟩
  | cond x a b iha ihb =>
    intro st Q h
    unfold wpS at h
    split at h
    · rename_i t hx
      cases t with
      | true => exact iha _ _ h
      | false => exact ihb _ _ h
    · exact h.elim
  | blk id c ih =>
    intro st Q h
    obtain ⟨e, s, hh, hle⟩ := ih _ _ h
    cases e with
    | nrm => exact ⟨_, s, hh, hle⟩
    | ret => exact ⟨_, s, hh, hle⟩
    | exit id' =>
      simp only at hh
      split at hh
      · exact ⟨_, s, hh, hle⟩
      · exact ⟨_, s, hh, hle⟩
  | loop c ih =>
    intro st Q h
    obtain ⟨R, h1, h2⟩ := h
    obtain ⟨e, s, hh, hle⟩ := hS _ h1
    exact ⟨e, s, h2 _ _ hh, hle⟩
  | exit id => intro st Q h; exact ⟨_, _, h, Nat.le_refl _⟩
  | ret => intro st Q h; exact ⟨_, _, h, Nat.le_refl _⟩
  | keep ss ps => intro st Q h; exact ⟨_, _, h, Nat.le_refl _⟩
  | sub c ih => intro st Q h; exact ih _ _ h
  | rng x J f slots =>
    intro st Q h
    unfold wpS at h
    split at h
    · obtain ⟨_, R, h2, h3⟩ := h
      obtain ⟨a, o, t, hr, hle⟩ := hS _ h2
      subst hr
      split at h3
      · exact ⟨_, _, h3, Nat.le_trans (Nat.le_succ _) hle⟩
      · exact ⟨_, _, h3, Nat.le_trans (Nat.le_succ _) hle⟩
      · exact h3.elim
    · exact h.elim
  | rnd ss a c iha ihc =>
    intro st Q h
    unfold wpS at h
    split at h
    · obtain ⟨e, s, hh, hle⟩ := iha _ _ h
      cases e with
      | nrm =>
        obtain ⟨e', s', hh', hle'⟩ := ihc _ _ hh
        exact ⟨_, _, hh', Nat.le_trans hle hle'⟩
      | ret => exact hh.elim
      | exit id => exact hh.elim
    · exact h.elim
  | stop => intro st Q h; exact h.elim
  | frz s =>
    intro st Q h
    unfold wpS at h
    split at h
    · split at h
      · exact ⟨_, _, h, Nat.le_refl _⟩
      · exact h.elim
    · exact h.elim

theorem Holds.tkOk (hT : ExtOk T) {J : Job} (h : Holds T J) : J.tkOk := by
  refine Holds.ind (S := Job.tkOk) ?_ h
  intro J hJ
  cases J with
  | call f args ob tk R =>
    simp only [stepJ] at hJ
    cases hf : T f with
    | none => rw [hf] at hJ; exact hJ.elim
    | some d =>
      rw [hf] at hJ
      cases d with
      | code fn =>
        obtain ⟨e, s, ⟨_, a, _, hr⟩, hle⟩ := wpS_some (fun J h => h.2) _ _ _ hJ.2
        exact ⟨a, _, _, hr, hle⟩
      | ext e => exact hT.tick _ _ hf _ _ _ _ hJ
  | loop c st Q =>
    simp only [stepJ] at hJ
    obtain ⟨e, s, hh, hle⟩ := wpS_some (fun J h => h.2) _ _ _ hJ
    cases e with
    | nrm =>
      obtain ⟨e', s', h1, h2⟩ := hh.2
      exact ⟨e', s', h1, Nat.le_trans hle h2⟩
    | ret => exact ⟨_, s, hh, hle⟩
    | exit id => exact ⟨_, s, hh, hle⟩

theorem Holds.out1 (hT : ExtOk T) : ∀ f args ob tk R, Holds T (.call f args ob tk R) → ∃ a o t, R a o t := fun _ _ _ _ _ h => (Holds.tkOk hT h).some

theorem Holds.conj (hT : ExtOk T) : Joins (Holds T) (Holds T) (Holds T) := by
  have key : ∀ J, Holds T J → ∀ J', Holds T J' → J.same J' → ∀ K, J.conj J' = some K → Holds T K := by
    intro J hJ
    refine Holds.ind (S := fun J => ∀ J', Holds T J' → J.same J' → ∀ K, J.conj J' = some K → Holds T K) ?_ hJ
    intro J hJ J' hJ' hs K hK
    have hj : Joins (fun J => Holds T J ∧ ∀ J', Holds T J' → J.same J' → ∀ K, J.conj J' = some K → Holds T K) (Holds T) (Holds T) :=
      ⟨fun f args ob tk R R' h h' => h.2 _ h' ⟨rfl, rfl, rfl, rfl⟩ _ rfl, fun c st Q Q' h h' => h.2 _ h' ⟨rfl, rfl⟩ _ rfl⟩
    have hJ'' := hJ'.out
    cases J with
    | call f args ob tk R =>
      cases J' with
      | loop => exact hs.elim
      | call f' args' ob' tk' R' =>
        obtain ⟨rfl, rfl, rfl, rfl⟩ := hs
        cases hK
        refine .in ?_
        simp only [stepJ] at hJ hJ'' ⊢
        cases hf : T f with
        | none => rw [hf] at hJ; exact hJ.elim
        | some d =>
          rw [hf] at hJ hJ''
          cases d with
          | code fn =>
            refine ⟨hJ.1, wpS_mono (fun _ h => h) _ _ _ _ (fun e s hh => ?_) (wpS_conj hj (Holds.weakOk hT) (Holds.out1 hT) _ _ _ _ hJ.2 hJ''.2)⟩
            obtain ⟨⟨h1, a, ha, hr⟩, ⟨_, a', ha', hr'⟩⟩ := hh
            have : a = a' := Option.some.inj (ha.symm.trans ha')
            subst this
            exact ⟨h1, a, ha, hr, hr'⟩
          | ext e => exact hT.conj _ _ hf _ _ _ _ _ hJ hJ''
    | loop c st Q =>
      cases J' with
      | call => exact hs.elim
      | loop c' st' Q' =>
        obtain ⟨rfl, rfl⟩ := hs
        cases hK
        refine .in ?_
        simp only [stepJ] at hJ hJ'' ⊢
        refine wpS_mono (fun _ h => h) _ _ _ _ (fun e s hh => ?_) (wpS_conj hj (Holds.weakOk hT) (Holds.out1 hT) _ _ _ _ hJ hJ'')
        cases e with
        | nrm => exact hj.2 _ _ _ _ hh.1 hh.2
        | ret => exact hh
        | exit id => exact hh
  exact ⟨fun f args ob tk R R' h h' => key _ h _ h' ⟨rfl, rfl, rfl, rfl⟩ _ rfl, fun c st Q Q' h h' => key _ h _ h' ⟨rfl, rfl⟩ _ rfl⟩



end Go.Fw
