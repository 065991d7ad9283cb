import Derived.Test.YtniofejaoleipaaGreatDoorFwRules
/-
  The form for use: calls are functions (retZ, retO, retI), a test's slot is known in each of its ways.
-/
namespace Go.Fw
variable {T : Nat → Option ADef}

open Classical in
noncomputable def retZ (T : Nat → Option ADef) (f : Nat) (args : List AV) (ob : Ob) (ks : List Nat) : Option AV :=
  if h : argsB ob 1 args = true ∧ ∃ b, Holds T (.call f args ob 1 fun a o _ => frozen o ks a = some b) then some (Classical.choose h.2) else none
open Classical in
noncomputable def retO (T : Nat → Option ADef) (f : Nat) (args : List AV) (ob : Ob) (k : Nat) : Option (List AV) :=
  if h : argsB ob 1 args = true ∧ ∃ xs, Holds T (.call f args ob 1 fun a o _ => fresh o k a = some xs) then some (Classical.choose h.2) else none
open Classical in
noncomputable def retI (T : Nat → Option ADef) (f : Nat) (args : List AV) (ob : Ob) (tk : Nat) : Option (AV × Ob × Nat) :=
  if h : ∃ r : AV × Ob × Nat, Holds T (.call f args ob tk fun a o t => (a, o, t) = r) then some (Classical.choose h) else none

theorem retZ_spec {f : Nat} {args : List AV} {ob : Ob} {ks : List Nat} {b : AV} (h : retZ T f args ob ks = some b) : argsB ob 1 args = true ∧ Holds T (.call f args ob 1 fun a o _ => frozen o ks a = some b) := by
  unfold retZ at h
  split at h
  · rename_i hx
    cases h
    exact ⟨hx.1, Classical.choose_spec hx.2⟩
  · cases h
theorem retO_spec {f : Nat} {args : List AV} {ob : Ob} {k : Nat} {b : List AV} (h : retO T f args ob k = some b) : argsB ob 1 args = true ∧ Holds T (.call f args ob 1 fun a o _ => fresh o k a = some b) := by
  unfold retO at h
  split at h
  · rename_i hx
    cases h
    exact ⟨hx.1, Classical.choose_spec hx.2⟩
  · cases h
theorem retI_spec {f : Nat} {args : List AV} {ob : Ob} {tk : Nat} {r : AV × Ob × Nat} (h : retI T f args ob tk = some r) : Holds T (.call f args ob tk fun a o t => (a, o, t) = r) := by
  unfold retI at h
  split at h
  · rename_i hx
    cases h
    exact Classical.choose_spec hx
  · cases h

theorem retZ_eq (hT : ExtOk T) {f : Nat} {args : List AV} {ob : Ob} {ks : List Nat} {b : AV} (h0 : argsB ob 1 args = true) (h : Holds T (.call f args ob 1 fun a o _ => frozen o ks a = some b)) : retZ T f args ob ks = some b := by
  have hx : ∃ b, Holds T (.call f args ob 1 fun a o _ => frozen o ks a = some b) := ⟨b, h⟩
  unfold retZ
  rw [dif_pos ⟨h0, hx⟩]
  have h' := Classical.choose_spec hx
  obtain ⟨a, o, t, ⟨h1, h2⟩, _⟩ := Holds.tkOk hT ((Holds.conj hT).1 _ _ _ _ _ _ h h')
  rw [h1] at h2
  exact h2.symm
theorem retO_eq (hT : ExtOk T) {f : Nat} {args : List AV} {ob : Ob} {k : Nat} {b : List AV} (h0 : argsB ob 1 args = true) (h : Holds T (.call f args ob 1 fun a o _ => fresh o k a = some b)) : retO T f args ob k = some b := by
  have hx : ∃ b, Holds T (.call f args ob 1 fun a o _ => fresh o k a = some b) := ⟨b, h⟩
  unfold retO
  rw [dif_pos ⟨h0, hx⟩]
  have h' := Classical.choose_spec hx
  obtain ⟨a, o, t, ⟨h1, h2⟩, _⟩ := Holds.tkOk hT ((Holds.conj hT).1 _ _ _ _ _ _ h h')
  rw [h1] at h2
  exact h2.symm
theorem retI_eq (hT : ExtOk T) {f : Nat} {args : List AV} {ob : Ob} {tk : Nat} {r : AV × Ob × Nat} (h : Holds T (.call f args ob tk fun a o t => (a, o, t) = r)) : retI T f args ob tk = some r := by
  have hx : ∃ r : AV × Ob × Nat, Holds T (.call f args ob tk fun a o t => (a, o, t) = r) := ⟨r, h⟩
  unfold retI
  rw [dif_pos hx]
  have h' := Classical.choose_spec hx
  obtain ⟨a, o, t, ⟨h1, h2⟩, _⟩ := Holds.tkOk hT ((Holds.conj hT).1 _ _ _ _ _ _ h h')
  rw [← h2, h1]

/-- Go on with what is there. -/
def bindO {α : Type} (o : Option α) (k : α → Prop) : Prop :=
  match o with
  | some a => k a
  | none => False
@[simp] theorem bindO_some {α : Type} (a : α) (k : α → Prop) : bindO (some a) k = k a := rfl
@[simp] theorem bindO_none {α : Type} (k : α → Prop) : bindO none k = False := rfl

/-- Go on with what is there: for what is there by sight. -/
def bindE {α : Type} (o : Option α) (k : α → Prop) : Prop :=
  match o with
  | some a => k a
  | none => tall False
theorem bindE_eq {α : Type} (o : Option α) (k : α → Prop) : bindE o k = bindO o k := by cases o <;> rfl

/-- A test. -/
def gdV (v : AV) (want : Bool) (A B C : Prop) : Prop :=
  match v with
  | .v (.bool b) => if b = want then A else B
  | .und => C
  | _ => False
def condV (v : AV) (A B : Prop) : Prop :=
  match v with
  | .v (.bool b) => if b = true then A else B
  | _ => False

/-- Go on at a normal end. -/
def seqK (K : St → Prop) (Q : Ex → St → Prop) : Ex → St → Prop
  | .nrm, s => K s
  | .ret, s => Q .ret s
  | .exit n, s => Q (.exit n) s
def blkK (id : Nat) (Q : Ex → St → Prop) : Ex → St → Prop
  | .exit id', s => if id' = id then Q .nrm s else Q (.exit id') s
  | .nrm, s => Q .nrm s
  | .ret, s => Q .ret s
def loopK (T : Nat → Option ADef) (c : ACode) (Q : Ex → St → Prop) : Ex → St → Prop
  | .nrm, s => Holds T (.loop c s Q)
  | .ret, s => Q .ret s
  | .exit n, s => Q (.exit n) s
/-- Behind a range over a function: how it was left. -/
def leftK (s : Option Nat) (Q : Ex → St → Prop) (st : St) : Prop :=
  match s with
  | none => Q .nrm st
  | some n => Q (exJ n) st
/-- The end of a round. -/
def endK (Q : Ex → St → Prop) : Ex → St → Prop := fun e st => Q .nrm ⟨[(0, .v (.int .i64 (codeEx e)))], st.ob, st.tk⟩
/-- Behind a round's assignment. -/
def rndK (K : St → Prop) : Ex → St → Prop
  | .nrm, s => K s
  | .ret, _ => False
  | .exit _, _ => False
/-- What is asked of a function's end. -/
def retK (fn : AFun) (R : AV → Ob → Nat → Prop) : Ex → St → Prop
  | .exit _, _ => False
  | .nrm, s => bindO (fn.result s) fun a => R a s.ob s.tk
  | .ret, s => bindO (fn.result s) fun a => R a s.ob s.tk

/-- What a named piece comes to. -/
structure Boxed (p : Prop) : Prop where
  out : p
theorem boxed_eq (p : Prop) : Boxed p = p := propext ⟨fun h => h.out, fun h => ⟨h⟩⟩

/-- A value under a name. -/
def bnd {α : Sort _} (x : α) (k : α → Prop) : Prop := k x

abbrev Acc := List (Nat × List Nat × List Nat)

/-- 'a && b': b's text is met only where a holds. -/
def andA (v : AV) (acc : Acc) (A : (AV → Acc → Prop) → Prop) (J : AV → Acc → Prop) : Prop := gdV v true (A J) (J (.v (.bool false)) acc) False
def orA (v : AV) (acc : Acc) (A : (AV → Acc → Prop) → Prop) (J : AV → Acc → Prop) : Prop := gdV v false (A J) (J (.v (.bool true)) acc) False

/-- Whom a call calls. -/
def calleeU (f : ACall) (env : Env) (k : Nat × List AV → Prop) : Prop :=
  match f with
  | .fn f => k (f, [])
  | .val x => bindE (x.ev env) fun a => bindO (fnV a) k
theorem calleeU_eq (f : ACall) (env : Env) (k : Nat × List AV → Prop) : calleeU f env k = bindO (f.ev env) k := by
  cases f with
  | fn f => rfl
  | val x =>
    simp only [calleeU, bindE_eq, ACall.ev]
    cases x.ev env <;> rfl

/-- One instruction that is carried out. -/
def wpInsU (T : Nat → Option ADef) (un : List (Nat × Nat)) (t0 : Nat) (i : Ins) (j : Nat) (acc : Acc) (env : Env) (ob : Ob) (tk : Nat) (K : Acc → Env → Ob → Nat → Prop) : Prop :=
  match i with
  | .m dst _ o => bindE (o.sem (X.ev env)) fun a => K acc (putE env dst a) ob tk
  | .p dst _ o => bindO (o.sem (X.ev env)) fun a => K acc (putE env dst a) ob tk
  | .r dst _ o => bindO ((o.sem (X.ev env)).run ob) fun a =>
      clash un acc j ((o.sem (X.ev env)).seen ob) [] (K (logIf un j ((o.sem (X.ev env)).seen ob) [] acc) (putE env dst a) ob tk)
  | .w dst _ o => bindO ((o.sem (X.ev env) (t0 + j)).run ob) fun p =>
      clash un acc j ((o.sem (X.ev env) (t0 + j)).seen ob) (keysOf p.2) (K (logIf un j ((o.sem (X.ev env) (t0 + j)).seen ob) (keysOf p.2) acc) (putE env dst p.1) (wrsO ob p.2) tk)
  | .fin _ n s y => bindE (lk env s) fun a => bindE (y.ev env) fun b => bindO ((finV n a b).run ob) fun p =>
      clash un acc j ((finV n a b).seen ob) (keysOf p.2) (K (logIf un j ((finV n a b).seen ob) (keysOf p.2) acc) (up env s p.1) (wrsO ob p.2) tk)
  | .call dst _ f args (.frz ks) => calleeU f env fun fc => bindE (evArgs env args) fun as => bindE (argsV ob 1 as) fun p =>
      clash un acc j p.2.2 p.2.2 (bindO (retZ T fc.1 (p.1 ++ fc.2) p.2.1 ks) fun b => K (logIf un j p.2.2 p.2.2 acc) (putE env dst b) (rmAll ob p.2.2) tk)
  | .call dst _ f args (.own q k) => calleeU f env fun fc => bindE (evArgs env args) fun as => bindE (argsV ob 1 as) fun p =>
      lk (rmAll ob p.2.2) (keyOf q (t0 + j)) = none ∧
      clash un acc j p.2.2 (keyOf q (t0 + j) :: p.2.2)
        (bindO (retO T fc.1 (p.1 ++ fc.2) p.2.1 k) fun xs => K (logIf un j p.2.2 (keyOf q (t0 + j) :: p.2.2) acc)
          (putE env dst (.own (keyOf q (t0 + j)) (t0 + j) k 0 xs.length)) (up (rmAll ob p.2.2) (keyOf q (t0 + j)) (t0 + j, .arr k xs)) tk)
  | .calli dst _ f args => calleeU f env fun fc => bindE (mapX (X.ev env) args) fun as =>
      un = [] ∧ bindO (retI T fc.1 (as ++ fc.2) ob tk) fun r => K acc (putE env dst r.1) r.2.1 r.2.2
  | .cally dst _ x args => bindE (x.ev env) fun a => bindO (ylOf a) fun y => bindE (mapX (X.ev env) args) fun as => bindO (lpOf ob y.1 y.2) fun fc =>
      un = [] ∧ bindO (retI T fc.1 (as ++ fc.2) (rm ob y.1) tk) fun r => bindO (intOf r.1) fun c => K acc (putE env dst (.v (.bool (c == 0)))) (up r.2.1 y.1 (y.2, .lp fc.1 fc.2 (sOf c))) r.2.2

def wpOpsU (T : Nat → Option ADef) (un : List (Nat × Nat)) (t0 : Nat) : List Ins → Nat → Acc → Env → Ob → Nat → (Env → Ob → Nat → Prop) → Prop
  | [], _, _, env, ob, tk, Q => Q env ob tk
  | i :: r, j, acc, env, ob, tk, Q =>
    match i.gd with
    | none => wpInsU T un t0 i j acc env ob tk fun acc env ob tk => wpOpsU T un t0 r (j + 1) acc env ob tk Q
    | some (s, want) => bindE (lk env s) fun v => gdV v want
        (wpInsU T un t0 i j acc (up env s (.v (.bool want))) ob tk fun acc env ob tk => wpOpsU T un t0 r (j + 1) acc env ob tk Q)
        (wpOpsU T un t0 r (j + 1) acc (putE (up env s (.v (.bool (!want)))) i.dst .und) ob tk Q)
        (wpOpsU T un t0 r (j + 1) acc (putE (up env s .und) i.dst .und) ob tk Q)

def wpU (T : Nat → Option ADef) : ACode → St → (Ex → St → Prop) → Prop
  | .skip, st, Q => Q .nrm st
  | .seq a b, st, Q => wpU T a st (seqK (fun s => wpU T b s Q) Q)
  | .reg is un, st, Q => wpOpsU T un st.tk is 0 [] st.env st.ob (nextTk st.tk is) fun env ob tk => Q .nrm ⟨env, ob, tk⟩
  | .cond x a b, st, Q => match x with
    | .s n => bindE (lk st.env n) fun v => condV v (wpU T a ⟨up st.env n (.v (.bool true)), st.ob, st.tk⟩ Q) (wpU T b ⟨up st.env n (.v (.bool false)), st.ob, st.tk⟩ Q)
    | .c v => condV v (wpU T a st Q) (wpU T b st Q)
  | .blk id c, st, Q => wpU T c st (blkK id Q)
  | .loop c, st, Q => Holds T (.loop c st Q)
  | .exit id, st, Q => Q (.exit id) st
  | .ret, st, Q => Q .ret st
  | .stop, _, _ => False
  | .sub c, st, Q => Boxed (wpU T c st Q)
  | .rng x J f slots, st, Q => bindE (x.ev st.env) fun a => bindO (fnV a) fun h => bindE (slotsV st.env slots) fun caps => lk st.ob J = none ∧
      bindO (retI T h.1 (.yl J st.tk :: h.2) (up st.ob J (st.tk, .lp f caps none)) (st.tk + 1)) fun r => bindO (leftBy r.2.1 J st.tk) fun s => leftK s Q ⟨st.env, rm r.2.1 J, r.2.2⟩
  | .rnd ss a c, st, Q => bindE (reEnv st.env ss 0) fun env => wpU T a ⟨env, st.ob, st.tk⟩ (rndK fun st' => wpU T c st' (endK Q))
  | .keep ss ps, st, Q => Q .nrm ⟨kp st.env ss, rmAll st.ob ps, st.tk⟩
  | .frz s, st, Q => bindE (lk st.env s) fun a => bindO (frzV st.ob a) fun r => Q .nrm ⟨up st.env s r.1, r.2, st.tk⟩

theorem up_self {β : Type} : ∀ (l : List (Nat × β)) (n : Nat) (b : β), lk l n = some b → up l n b = l
  | [], n, b, h => by cases h
  | (m, c) :: r, n, b, h => by
    unfold lk at h
    unfold up
    split at h
    · rename_i he; cases h; rw [if_pos he, he]
    · rename_i he; rw [if_neg he, up_self r n b h]

theorem wpInsU_wpOps {un : List (Nat × Nat)} {t0 : Nat} (i : Ins) (r : List Ins) (j : Nat) (acc : Acc) (env : Env) (ob : Ob) (tk : Nat) (Q : St → Prop)
    (hg : i.guardOk env = some true) {K : Acc → Env → Ob → Nat → Prop} (hK : ∀ acc env ob tk, K acc env ob tk → wpOps (Holds T) un t0 r (j + 1) acc ⟨env, ob, tk⟩ Q)
    (h : wpInsU T un t0 i j acc env ob tk K) : wpOps (Holds T) un t0 (i :: r) j acc ⟨env, ob, tk⟩ Q := by
  unfold wpOps
  rw [hg]
  cases i with
  | m dst gd o =>
    simp only [wpInsU, bindE_eq] at h ⊢
    cases hr : o.sem (X.ev env) with
    | none => rw [hr] at h; exact h.elim
    | some p => rw [hr] at h; exact hK _ _ _ _ h
  | p dst gd o =>
    simp only [wpInsU] at h ⊢
    cases hr : o.sem (X.ev env) with
    | none => rw [hr] at h; exact h.elim
    | some p => rw [hr] at h; exact hK _ _ _ _ h
  | r dst gd o =>
    simp only [wpInsU] at h ⊢
    cases hr : (o.sem (X.ev env)).run ob with
    | none => rw [hr] at h; exact h.elim
    | some p => rw [hr] at h; exact clash_mono (hK _ _ _ _) h
  | w dst gd o =>
    simp only [wpInsU] at h ⊢
    cases hr : (o.sem (X.ev env) (t0 + j)).run ob with
    | none => rw [hr] at h; exact h.elim
    | some p => rw [hr] at h; exact clash_mono (hK _ _ _ _) h
  | fin gd n s y =>
    simp only [wpInsU, bindE_eq] at h ⊢
    cases hs : lk env s with
    | none => rw [hs] at h; exact h.elim
    | some a =>
      cases hy : y.ev env with
      | none => rw [hs, hy] at h; exact h.elim
      | some b =>
        rw [hs, hy] at h
        simp only [bindO] at h ⊢
        cases hr : (finV n a b).run ob with
        | none => rw [hr] at h; exact h.elim
        | some p => rw [hr] at h; exact clash_mono (hK _ _ _ _) h
  | call dst gd f args res =>
    cases res with
    | frz ks =>
      simp only [wpInsU, bindE_eq, calleeU_eq, argsOf] at h ⊢
      cases hf : f.ev env with
      | none => rw [hf] at h; exact h.elim
      | some fc =>
        rw [hf] at h
        cases he : evArgs env args with
        | none => rw [he] at h; exact h.elim
        | some as =>
        rw [he] at h
        simp only [bindO_some] at h ⊢
        cases ha : argsV ob 1 as with
        | none => rw [ha] at h; exact h.elim
        | some p =>
          rw [ha] at h
          simp only [bindO_some] at h
          refine clash_mono (fun h2 => ?_) h
          cases hz : retZ T fc.1 (p.1 ++ fc.2) p.2.1 ks with
          | none => rw [hz] at h2; exact h2.elim
          | some b =>
            rw [hz] at h2
            exact ⟨(retZ_spec hz).1, b, (retZ_spec hz).2, hK _ _ _ _ h2⟩
    | own q k =>
      simp only [wpInsU, bindE_eq, calleeU_eq, argsOf] at h ⊢
      cases hf : f.ev env with
      | none => rw [hf] at h; exact h.elim
      | some fc =>
        rw [hf] at h
        cases he : evArgs env args with
        | none => rw [he] at h; exact h.elim
        | some as =>
        rw [he] at h
        simp only [bindO_some] at h ⊢
        cases ha : argsV ob 1 as with
        | none => rw [ha] at h; exact h.elim
        | some p =>
          rw [ha] at h
          simp only [bindO_some] at h
          refine ⟨h.1, clash_mono (fun h2 => ?_) h.2⟩
          cases hz : retO T fc.1 (p.1 ++ fc.2) p.2.1 k with
          | none => rw [hz] at h2; exact h2.elim
          | some b =>
            rw [hz] at h2
            exact ⟨(retO_spec hz).1, b, (retO_spec hz).2, hK _ _ _ _ h2⟩
  | calli dst gd f args =>
    simp only [wpInsU, bindE_eq, calleeU_eq] at h ⊢
    cases hf : f.ev env with
    | none => rw [hf] at h; exact h.elim
    | some fc =>
      cases ha : mapX (X.ev env) args with
      | none => rw [hf, ha] at h; exact h.elim
      | some as =>
        rw [hf, ha] at h
        simp only [bindO_some] at h
        obtain ⟨h1, h2⟩ := h
        cases hz : retI T fc.1 (as ++ fc.2) ob tk with
        | none => rw [hz] at h2; exact h2.elim
        | some b =>
          rw [hz] at h2
          exact ⟨h1, b, retI_spec hz, hK _ _ _ _ h2⟩
  | cally dst gd x args =>
    simp only [wpInsU, bindE_eq] at h ⊢
    cases hx : x.ev env with
    | none => rw [hx] at h; exact h.elim
    | some a =>
      rw [hx] at h
      simp only [bindO_some] at h
      cases hy : ylOf a with
      | none => rw [hy] at h; exact h.elim
      | some y =>
        rw [hy] at h
        simp only [bindO_some] at h
        cases ha : mapX (X.ev env) args with
        | none => rw [ha] at h; exact h.elim
        | some as =>
          rw [ha] at h
          simp only [bindO_some] at h
          cases hl : lpOf ob y.1 y.2 with
          | none => rw [hl] at h; exact h.elim
          | some fc =>
            rw [hl] at h
            simp only [bindO_some] at h
            obtain ⟨h1, h2⟩ := h
            cases hz : retI T fc.1 (as ++ fc.2) (rm ob y.1) tk with
            | none => rw [hz] at h2; exact h2.elim
            | some b =>
              rw [hz] at h2
              simp only [bindO_some] at h2
              cases hi : intOf b.1 with
              | none => rw [hi] at h2; exact h2.elim
              | some c =>
                rw [hi] at h2
                simp only [Option.bind_some, hy, hl]
                refine ⟨h1, b, retI_spec hz, ?_⟩
                rw [hi]
                exact hK _ _ _ _ h2

theorem wpOpsU_wpOps {un : List (Nat × Nat)} {t0 : Nat} : ∀ (is : List Ins) (j : Nat) (acc : Acc) (env : Env) (ob : Ob) (tk : Nat) (Q : St → Prop),
    wpOpsU T un t0 is j acc env ob tk (fun env ob tk => Q ⟨env, ob, tk⟩) → wpOps (Holds T) un t0 is j acc ⟨env, ob, tk⟩ Q := by
  intro is
  induction is with
  | nil => intro j acc env ob tk Q h; exact h
  | cons i r ih =>
    intro j acc env ob tk Q h
    unfold wpOpsU at h
    split at h
    · rename_i hg
      exact wpInsU_wpOps i r j acc env ob tk Q (by unfold Ins.guardOk; rw [hg]) (fun acc env ob tk h => ih _ _ _ _ _ _ h) h
    · rename_i s want hg
      cases hl : lk env s with
      | none => rw [hl] at h; exact h.elim
      | some v =>
        rw [hl] at h
        simp only [bindE_eq, bindO_some] at h
        unfold gdV at h
        split at h
        · rename_i b
          split at h
          · rename_i he
            subst he
            rw [up_self _ _ _ hl] at h
            exact wpInsU_wpOps i r j acc env ob tk Q (by unfold Ins.guardOk; rw [hg]; simp [hl]) (fun acc env ob tk h => ih _ _ _ _ _ _ h) h
          · rename_i he
            have e : b = !want := by cases b <;> cases want <;> simp_all
            rw [← e, up_self _ _ _ hl] at h
            unfold wpOps
            have : i.guardOk env = some false := by unfold Ins.guardOk; rw [hg]; simp [hl, he]
            rw [this]
            exact ih _ _ _ _ _ _ h
        · rw [up_self _ _ _ hl] at h
          unfold wpOps
          have : i.guardOk env = some false := by unfold Ins.guardOk; rw [hg]; simp [hl]
          rw [this]
          exact ih _ _ _ _ _ _ h
        · exact h.elim

theorem wpU_wpS : ∀ (c : ACode) (st : St) (Q : Ex → St → Prop), wpU T c st Q → wpS (Holds T) c st Q := by
  intro c
  induction c with
  | skip => intro st Q h; exact h
  | seq a b iha ihb =>
    intro st Q h
    refine wpS_mono (fun _ h => h) a _ _ _ (fun e s hh => ?_) (iha _ _ h)
    cases e with
    | nrm => exact ihb _ _ hh
    | ret => exact hh
    | exit id => exact hh
  | reg is un => intro st Q h; exact wpOpsU_wpOps _ _ _ _ _ _ _ h
  | cond x a b iha ihb =>
    intro st Q h
    unfold wpU at h
    unfold wpS
    cases x with
    | s n =>
      simp only [X.ev] at h ⊢
      cases hl : lk st.env n with
      | none => rw [hl] at h; exact h.elim
      | some v =>
        rw [hl] at h
        simp only [bindE_eq, bindO_some] at h
        unfold condV at h
        split at h
        · rename_i t
          simp only
          cases t with
          | true => simp only [if_true] at h ⊢; rw [up_self _ _ _ hl] at h; exact iha _ _ h
          | false => simp only [Bool.false_eq_true, if_false] at h ⊢; rw [up_self _ _ _ hl] at h; exact ihb _ _ h
        · exact h.elim
    | c v =>
      simp only [X.ev] at h ⊢
      unfold condV at h
      split at h
      · rename_i t
        simp only
        cases t with
        | true => exact iha _ _ h
        | false => exact ihb _ _ h
      · exact h.elim
  | blk id c ih =>
    intro st Q h
    refine wpS_mono (fun _ h => h) c _ _ _ (fun e s hh => ?_) (ih _ _ h)
    cases e with
    | nrm => exact hh
    | ret => exact hh
    | exit id' => exact hh
  | loop c ih => intro st Q h; exact ⟨Q, h, fun _ _ h => h⟩
  | exit id => intro st Q h; exact h
  | ret => intro st Q h; exact h
  | keep ss ps => intro st Q h; exact h
  | sub c ih => intro st Q h; exact ih _ _ h.out
  | rng x J f slots =>
    intro st Q h
    unfold wpU at h
    unfold wpS
    simp only [bindE_eq] at h
    cases hx : x.ev st.env with
    | none => rw [hx] at h; exact h.elim
    | some a =>
      rw [hx] at h
      simp only [bindO_some] at h
      cases hf : fnV a with
      | none => rw [hf] at h; exact h.elim
      | some fc =>
        rw [hf] at h
        simp only [bindO_some] at h
        cases hs : slotsV st.env slots with
        | none => rw [hs] at h; exact h.elim
        | some caps =>
          rw [hs] at h
          simp only [bindO_some] at h
          obtain ⟨h1, h2⟩ := h
          simp only [Option.bind_some, hf]
          cases hz : retI T fc.1 (.yl J st.tk :: fc.2) (up st.ob J (st.tk, .lp f caps none)) (st.tk + 1) with
          | none => rw [hz] at h2; exact h2.elim
          | some b =>
            rw [hz] at h2
            simp only [bindO_some] at h2
            refine ⟨h1, b, retI_spec hz, ?_⟩
            cases hl : leftBy b.2.1 J st.tk with
            | none => rw [hl] at h2; exact h2.elim
            | some s =>
              rw [hl] at h2
              cases s with
              | none => exact h2
              | some n => exact h2
  | rnd ss a c iha ihc =>
    intro st Q h
    unfold wpU at h
    unfold wpS
    simp only [bindE_eq] at h
    cases he : reEnv st.env ss 0 with
    | none => rw [he] at h; exact h.elim
    | some env =>
      rw [he] at h
      simp only [bindO_some] at h
      refine wpS_mono (fun _ h => h) a _ _ _ (fun e s hh => ?_) (iha _ _ h)
      cases e with
      | nrm => exact ihc _ _ hh
      | ret => exact hh.elim
      | exit id => exact hh.elim
  | stop => intro st Q h; exact h.elim
  | frz s =>
    intro st Q h
    unfold wpU at h
    unfold wpS
    cases hl : lk st.env s with
    | none => rw [hl] at h; exact h.elim
    | some a =>
      rw [hl] at h
      simp only [bindE_eq, bindO_some] at h ⊢
      cases hx : frzV st.ob a with
      | none => rw [hx] at h; exact h.elim
      | some st' => rw [hx] at h; exact h

/-- One round of a loop. -/
theorem loop_step {c : ACode} {st : St} {Q : Ex → St → Prop} (h : wpU T c st (loopK T c Q)) : Holds T (.loop c st Q) :=
  Holds.in (wpS_mono (fun _ h => h) c _ _ _ (fun e s hh => by cases e <;> exact hh) (wpU_wpS _ _ _ h))

theorem call_of {f : Nat} {fn : AFun} {args : List AV} {ob : Ob} {tk : Nat} {R : AV → Ob → Nat → Prop} (hf : T f = some (.code fn)) (hn : args.length = fn.np)
    (h : wpU T fn.body ⟨envOf 0 args, ob, tk⟩ (retK fn R)) : Holds T (.call f args ob tk R) := by
  refine Holds.in ?_
  simp only [stepJ, hf]
  refine ⟨hn, wpS_mono (fun _ h => h) _ _ _ _ (fun e st hh => ?_) (wpU_wpS _ _ _ h)⟩
  have key : ∀ s : St, (bindO (fn.result s) fun a => R a s.ob s.tk) → ∃ a, fn.result s = some a ∧ R a s.ob s.tk := by
    intro s h
    cases hr : fn.result s with
    | none => rw [hr] at h; exact h.elim
    | some a => rw [hr] at h; exact ⟨a, rfl, h⟩
  cases e with
  | nrm => exact ⟨trivial, key _ hh⟩
  | ret => exact ⟨trivial, key _ hh⟩
  | exit id => exact hh.elim

theorem retZ_of (hT : ExtOk T) {f : Nat} {fn : AFun} {args : List AV} {ob : Ob} {ks : List Nat} {b : AV} (hf : T f = some (.code fn)) (hn : args.length = fn.np) (h0 : argsB ob 1 args = true)
    (h : wpU T fn.body ⟨envOf 0 args, ob, 1⟩ (retK fn fun a o _ => frozen o ks a = some b)) : retZ T f args ob ks = some b :=
  retZ_eq hT h0 (call_of hf hn h)
theorem retO_of (hT : ExtOk T) {f : Nat} {fn : AFun} {args : List AV} {ob : Ob} {k : Nat} {b : List AV} (hf : T f = some (.code fn)) (hn : args.length = fn.np) (h0 : argsB ob 1 args = true)
    (h : wpU T fn.body ⟨envOf 0 args, ob, 1⟩ (retK fn fun a o _ => fresh o k a = some b)) : retO T f args ob k = some b :=
  retO_eq hT h0 (call_of hf hn h)
theorem retI_of (hT : ExtOk T) {f : Nat} {fn : AFun} {args : List AV} {ob : Ob} {tk : Nat} {r : AV × Ob × Nat} (hf : T f = some (.code fn)) (hn : args.length = fn.np)
    (h : wpU T fn.body ⟨envOf 0 args, ob, tk⟩ (retK fn fun a o t => (a, o, t) = r)) : retI T f args ob tk = some r :=
  retI_eq hT (call_of hf hn h)

end Go.Fw
