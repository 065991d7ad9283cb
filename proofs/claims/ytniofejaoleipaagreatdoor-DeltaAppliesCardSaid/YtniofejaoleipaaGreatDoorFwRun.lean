import Derived.Test.YtniofejaoleipaaGreatDoorFwU
/-
  Running abstract code: a function of a run's fuel; what it yields holds.
-/
namespace Go.Fw

/-- What calls yield. -/
abbrev Orc := Nat → List AV → Ob → Nat → Option (AV × Ob × Nat)

def OrcOk (T : Nat → Option ADef) (O : Orc) : Prop := ∀ f args ob tk r, O f args ob tk = some r → Holds T (.call f args ob tk fun a o t => (a, o, t) = r)

/-- Is there a clash? -/
def clashR (un : List (Nat × Nat)) (acc : Acc) (j : Nat) (r w : List Nat) : Bool :=
  match un with
  | [] => true
  | _ => clashFree un acc j r w

theorem clashR_ok {un : List (Nat × Nat)} {acc : Acc} {j : Nat} {r w : List Nat} {K : Prop} (h : clashR un acc j r w = true) (hk : K) : clash un acc j r w K := by
  unfold clash clashR at *
  cases un with
  | nil => exact hk
  | cons => exact ⟨h, hk⟩

def isNil {α : Type} : List α → Bool
  | [] => true
  | _ => false
theorem isNil_ok {α : Type} {l : List α} (h : isNil l = true) : l = [] := by
  cases l with
  | nil => rfl
  | cons => cases h

def runOps (O : Orc) (un : List (Nat × Nat)) (t0 : Nat) : List Ins → Nat → Acc → St → Option St
  | [], _, _, st => some st
  | i :: r, j, acc, st =>
    match i.guardOk st.env with
    | none => none
    | some false => runOps O un t0 r (j + 1) acc { st with env := putE st.env i.dst .und }
    | some true => match i with
      | .m dst _ o => match o.sem (X.ev st.env) with
        | none => none
        | some a => runOps O un t0 r (j + 1) acc { st with env := putE st.env dst a }
      | .p dst _ o => match o.sem (X.ev st.env) with
        | none => none
        | some a => runOps O un t0 r (j + 1) acc { st with env := putE st.env dst a }
      | .r dst _ o => match (o.sem (X.ev st.env)).run st.ob with
        | none => none
        | some a => match clashR un acc j ((o.sem (X.ev st.env)).seen st.ob) [] with
          | true => runOps O un t0 r (j + 1) (logIf un j ((o.sem (X.ev st.env)).seen st.ob) [] acc) { st with env := putE st.env dst a }
          | false => none
      | .w dst _ o => match (o.sem (X.ev st.env) (t0 + j)).run st.ob with
        | none => none
        | some p => match clashR un acc j ((o.sem (X.ev st.env) (t0 + j)).seen st.ob) (keysOf p.2) with
          | true => runOps O un t0 r (j + 1) (logIf un j ((o.sem (X.ev st.env) (t0 + j)).seen st.ob) (keysOf p.2) acc) { st with env := putE st.env dst p.1, ob := wrsO st.ob p.2 }
          | false => none
      | .fin _ n s y => match lk st.env s, y.ev st.env with
        | some a, some b => match (finV n a b).run st.ob with
          | none => none
          | some p => match clashR un acc j ((finV n a b).seen st.ob) (keysOf p.2) with
            | true => runOps O un t0 r (j + 1) (logIf un j ((finV n a b).seen st.ob) (keysOf p.2) acc) { st with env := up st.env s p.1, ob := wrsO st.ob p.2 }
            | false => none
        | _, _ => none
      | .call dst _ f args (.frz ks) => match f.ev st.env, argsOf st.env st.ob 1 args with
        | some fc, some p => match clashR un acc j p.2.2 p.2.2, argsB p.2.1 1 (p.1 ++ fc.2) with
          | true, true => match O fc.1 (p.1 ++ fc.2) p.2.1 1 with
            | some q => match frozen q.2.1 ks q.1 with
              | some b => runOps O un t0 r (j + 1) (logIf un j p.2.2 p.2.2 acc) { st with env := putE st.env dst b, ob := rmAll st.ob p.2.2 }
              | none => none
            | none => none
          | _, _ => none
        | _, _ => none
      | .call dst _ f args (.own q k) => match f.ev st.env, argsOf st.env st.ob 1 args with
        | some fc, some p =>
          match lk (rmAll st.ob p.2.2) (keyOf q (t0 + j)) with
          | some _ => none
          | none => match clashR un acc j p.2.2 (keyOf q (t0 + j) :: p.2.2), argsB p.2.1 1 (p.1 ++ fc.2) with
            | true, true => match O fc.1 (p.1 ++ fc.2) p.2.1 1 with
              | some u => match fresh u.2.1 k u.1 with
                | some xs => runOps O un t0 r (j + 1) (logIf un j p.2.2 (keyOf q (t0 + j) :: p.2.2) acc)
                    { st with env := putE st.env dst (.own (keyOf q (t0 + j)) (t0 + j) k 0 xs.length), ob := up (rmAll st.ob p.2.2) (keyOf q (t0 + j)) (t0 + j, .arr k xs) }
                | none => none
              | none => none
            | _, _ => none
        | _, _ => none
      | .calli dst _ f args => match f.ev st.env, mapX (X.ev st.env) args with
        | some fc, some as => match isNil un with
          | true => match O fc.1 (as ++ fc.2) st.ob st.tk with
            | some q => runOps O un t0 r (j + 1) acc ⟨putE st.env dst q.1, q.2.1, q.2.2⟩
            | none => none
          | false => none
        | _, _ => none
      | .cally dst _ x args => match (x.ev st.env).bind ylOf, mapX (X.ev st.env) args with
        | some y, some as => match lpOf st.ob y.1 y.2 with
          | some fc => match isNil un with
            | true => match O fc.1 (as ++ fc.2) (rm st.ob y.1) st.tk with
              | some q => match intOf q.1 with
                | some c => runOps O un t0 r (j + 1) acc ⟨putE st.env dst (.v (.bool (c == 0))), up q.2.1 y.1 (y.2, .lp fc.1 fc.2 (sOf c)), q.2.2⟩
                | none => none
              | none => none
            | false => none
          | none => none
        | _, _ => none

variable {T : Nat → Option ADef} {O : Orc}

theorem runOps_ok (hT : ExtOk T) (hO : OrcOk T O) {un : List (Nat × Nat)} {t0 : Nat} : ∀ (is : List Ins) (j : Nat) (acc : Acc) (st st' : St), runOps O un t0 is j acc st = some st' → ∀ Q : St → Prop, Q st' → wpOps (Holds T) un t0 is j acc st Q := by
  intro is
  induction is with
  | nil => intro j acc st st' h Q hQ; cases h; exact hQ
  | cons i r ih =>
    intro j acc st st' h Q hQ
    unfold runOps at h
    unfold wpOps
    split at h
    · cases h
    · rename_i hg; rw [hg]; exact ih _ _ _ _ h Q hQ
    · rename_i hg; rw [hg]
      cases i with
      | m dst gd o =>
        simp only at h ⊢
        split at h
        · cases h
        · rename_i a ha; rw [ha]; exact ih _ _ _ _ h Q hQ
      | p dst gd o =>
        simp only at h ⊢
        split at h
        · cases h
        · rename_i a ha; rw [ha]; exact ih _ _ _ _ h Q hQ
      | r dst gd o =>
        simp only at h ⊢
        split at h
        · cases h
        · rename_i a ha
          rw [ha]
          split at h
          · rename_i hc; exact clashR_ok hc (ih _ _ _ _ h Q hQ)
          · cases h
      | w dst gd o =>
        simp only at h ⊢
        split at h
        · cases h
        · rename_i a ha
          rw [ha]
          split at h
          · rename_i hc; exact clashR_ok hc (ih _ _ _ _ h Q hQ)
          · cases h
      | fin gd n s y =>
        simp only at h ⊢
        split at h
        · rename_i a b ha hb
          rw [ha, hb]
          simp only
          split at h
          · cases h
          · rename_i p hp
            rw [hp]
            split at h
            · rename_i hc; exact clashR_ok hc (ih _ _ _ _ h Q hQ)
            · cases h
        · cases h
      | call dst gd f args res =>
        cases res with
        | frz ks =>
          simp only at h ⊢
          split at h
          · rename_i fc p hf hp
            rw [hf, hp]
            simp only
            split at h
            · rename_i hc hb
              split at h
              · rename_i q hq
                split at h
                · rename_i b hfz
                  refine clashR_ok hc ⟨hb, b, ?_, ih _ _ _ _ h Q hQ⟩
                  refine Holds.weak hT.mono (hO _ _ _ _ _ hq) ⟨rfl, rfl, rfl, rfl, ?_⟩
                  rintro a o t rfl
                  exact hfz
                · cases h
              · cases h
            · cases h
          · cases h
        | own q k =>
          simp only at h ⊢
          split at h
          · rename_i fc p hf hp
            rw [hf, hp]
            simp only
            split at h
            · cases h
            · rename_i hl
              split at h
              · rename_i hc hb
                split at h
                · rename_i u hu
                  split at h
                  · rename_i xs hfz
                    refine ⟨hl, clashR_ok hc ⟨hb, xs, ?_, ih _ _ _ _ h Q hQ⟩⟩
                    refine Holds.weak hT.mono (hO _ _ _ _ _ hu) ⟨rfl, rfl, rfl, rfl, ?_⟩
                    rintro a o t rfl
                    exact hfz
                  · cases h
                · cases h
              · cases h
          · cases h
      | calli dst gd f args =>
        simp only at h ⊢
        split at h
        · rename_i fc as hf ha
          rw [hf, ha]
          simp only
          split at h
          · rename_i hn
            split at h
            · rename_i q hq
              exact ⟨isNil_ok hn, q, hO _ _ _ _ _ hq, ih _ _ _ _ h Q hQ⟩
            · cases h
          · cases h
        · cases h
      | cally dst gd x args =>
        simp only at h ⊢
        split at h
        · rename_i y as hy ha
          rw [hy, ha]
          simp only
          split at h
          · rename_i fc hl
            rw [hl]
            simp only
            split at h
            · rename_i hn
              split at h
              · rename_i q hq
                split at h
                · rename_i c hc
                  refine ⟨isNil_ok hn, q, hO _ _ _ _ _ hq, ?_⟩
                  rw [hc]
                  exact ih _ _ _ _ h Q hQ
                · cases h
              · cases h
            · cases h
          · cases h
        · cases h

/-- The functions whose code is run; the others are the oracle's. -/
abbrev Codes := Nat → Option AFun

def stepR (F : Codes) (O : Orc) (rec : ACode → St → Option (Ex × St)) : ACode → St → Option (Ex × St)
  | .skip, st => some (.nrm, st)
  | .seq a b, st => match rec a st with
    | some r => match r.1 with
      | .nrm => rec b r.2
      | _ => some r
    | none => none
  | .reg is un, st =>
      match runOps (fun f args ob tk => match F f with
        | some fn => if args.length = fn.np then
            match rec fn.body ⟨envOf 0 args, ob, tk⟩ with
            | some r => match r.1 with
              | .exit _ => none
              | _ => match fn.result r.2 with
                | some a => some (a, r.2.ob, r.2.tk)
                | none => none
            | none => none
          else none
        | none => O f args ob tk) un st.tk is 0 [] { st with tk := nextTk st.tk is } with
      | some s => some (.nrm, s)
      | none => none
  | .cond x a b, st => match x.ev st.env with
    | some (.v (.bool t)) => match t with
      | true => rec a st
      | false => rec b st
    | _ => none
  | .blk id c, st => match rec c st with
    | some r => match r.1 with
      | .exit id' => if id' = id then some (.nrm, r.2) else some r
      | _ => some r
    | none => none
  | .loop c, st => match rec c st with
    | some r => match r.1 with
      | .nrm => rec (.loop c) r.2
      | _ => some r
    | none => none
  | .exit id, st => some (.exit id, st)
  | .ret, st => some (.ret, st)
  | .stop, _ => none
  | .sub c, st => rec c st
  | .keep ss ps, st => some (.nrm, { st with env := kp st.env ss, ob := rmAll st.ob ps })
  | .frz s, st => match lk st.env s with
    | some a => match frzV st.ob a with
      | some r => some (.nrm, ⟨up st.env s r.1, r.2, st.tk⟩)
      | none => none
    | none => none
  | .rng x J f slots, st => match (x.ev st.env).bind fnV, slotsV st.env slots with
    | some h, some caps => match lk st.ob J with
      | some _ => none
      | none => match (match F h.1 with
          | some fn => if ((.yl J st.tk :: h.2) : List AV).length = fn.np then
              match rec fn.body ⟨envOf 0 (.yl J st.tk :: h.2), up st.ob J (st.tk, .lp f caps none), st.tk + 1⟩ with
              | some r => match r.1 with
                | .exit _ => none
                | _ => match fn.result r.2 with
                  | some a => some (a, r.2.ob, r.2.tk)
                  | none => none
              | none => none
            else none
          | none => O h.1 (.yl J st.tk :: h.2) (up st.ob J (st.tk, .lp f caps none)) (st.tk + 1)) with
        | some q => match leftBy q.2.1 J st.tk with
          | some none => some (.nrm, ⟨st.env, rm q.2.1 J, q.2.2⟩)
          | some (some n) => some (exJ n, ⟨st.env, rm q.2.1 J, q.2.2⟩)
          | none => none
        | none => none
    | _, _ => none
  | .rnd ss a c, st => match reEnv st.env ss 0 with
    | some env => match rec a ⟨env, st.ob, st.tk⟩ with
      | some r => match r.1 with
        | .nrm => match rec c r.2 with
          | some r => some (.nrm, ⟨[(0, .v (.int .i64 (codeEx r.1)))], r.2.ob, r.2.tk⟩)
          | none => none
        | _ => none
      | none => none
    | none => none

def runC (F : Codes) (O : Orc) (n : Nat) : ACode → St → Option (Ex × St) :=
  Nat.rec (motive := fun _ => ACode → St → Option (Ex × St)) (fun _ _ => none) (fun _ r => stepR F O r) n

/-- A call that is run. -/
def runF (F : Codes) (O : Orc) (n : Nat) : Orc := fun f args ob tk =>
  match F f with
  | some fn => if args.length = fn.np then
      match runC F O n fn.body ⟨envOf 0 args, ob, tk⟩ with
      | some r => match r.1 with
        | .exit _ => none
        | _ => match fn.result r.2 with
          | some a => some (a, r.2.ob, r.2.tk)
          | none => none
      | none => none
    else none
  | none => O f args ob tk

variable {F : Codes}

def RecOk (T : Nat → Option ADef) (rec : ACode → St → Option (Ex × St)) : Prop := ∀ c st e st', rec c st = some (e, st') → ∀ Q : Ex → St → Prop, Q e st' → wpS (Holds T) c st Q

theorem recF_ok {rec : ACode → St → Option (Ex × St)} (hr : RecOk T rec) (hF : ∀ f fn, F f = some fn → T f = some (.code fn)) (hO : OrcOk T O) {f : Nat} {args : List AV} {ob : Ob} {tk : Nat} {q : AV × Ob × Nat}
    (h : (match F f with
        | some fn => if args.length = fn.np then
            match rec fn.body ⟨envOf 0 args, ob, tk⟩ with
            | some r => match r.1 with
              | .exit _ => none
              | _ => match fn.result r.2 with
                | some a => some (a, r.2.ob, r.2.tk)
                | none => none
            | none => none
          else none
        | none => O f args ob tk) = some q) : Holds T (.call f args ob tk fun a o t => (a, o, t) = q) := by
  split at h
  · rename_i fn hf
    split at h
    · rename_i hn
      split at h
      · rename_i r hrun
        have key : ∀ e, r.1 = e → (∀ id, e ≠ .exit id) → (match fn.result r.2 with
                | some a => some (a, r.2.ob, r.2.tk)
                | none => none) = some q → Holds T (.call f args ob tk fun a o t => (a, o, t) = q) := by
          intro e he hne hh
          cases hres : fn.result r.2 with
          | none => rw [hres] at hh; cases hh
          | some a =>
            rw [hres] at hh
            cases hh
            refine Holds.in ?_
            simp only [stepJ, hF f fn hf]
            refine ⟨hn, hr _ _ r.1 r.2 hrun _ ⟨?_, a, hres, rfl⟩⟩
            cases hx : r.1 with
            | nrm => trivial
            | ret => trivial
            | exit id => exact hne id (he ▸ hx)
        cases hx : r.1 with
        | nrm => rw [hx] at h; exact key _ hx (by intro id; simp) h
        | ret => rw [hx] at h; exact key _ hx (by intro id; simp) h
        | exit id => rw [hx] at h; cases h
      · cases h
    · cases h
  · exact hO _ _ _ _ _ h

theorem stepR_ok (hT : ExtOk T) (hF : ∀ f fn, F f = some fn → T f = some (.code fn)) (hO : OrcOk T O) {rec : ACode → St → Option (Ex × St)} (hr : RecOk T rec) : RecOk T (stepR F O rec) := by
  intro c st e st' h Q hQ
  cases c with
  | skip => cases h; exact hQ
  | seq a b =>
    simp only [stepR] at h
    split at h
    · rename_i r hrun
      obtain ⟨re, rs⟩ := r
      unfold wpS
      refine hr a st re rs hrun _ ?_
      cases re with
      | nrm => exact hr _ _ _ _ h _ hQ
      | ret => cases h; exact hQ
      | exit id => cases h; exact hQ
    · cases h
  | reg is un =>
    simp only [stepR] at h
    split at h
    · rename_i s hs
      cases h
      unfold wpS
      exact runOps_ok hT (O := fun f args ob tk => _) (fun f args ob tk r hh => recF_ok hr hF hO hh) is 0 [] _ _ hs _ hQ
    · cases h
  | cond x a b =>
    simp only [stepR] at h
    unfold wpS
    split at h
    · rename_i t ht
      rw [ht]
      cases t with
      | true => exact hr _ _ _ _ h _ hQ
      | false => exact hr _ _ _ _ h _ hQ
    · cases h
  | blk id c =>
    simp only [stepR] at h
    split at h
    · rename_i r hrun
      obtain ⟨re, rs⟩ := r
      unfold wpS
      refine hr c st re rs hrun _ ?_
      cases re with
      | nrm => cases h; exact hQ
      | ret => cases h; exact hQ
      | exit id' =>
        simp only at h ⊢
        split at h
        · rename_i he; rw [if_pos he]; cases h; exact hQ
        · rename_i he; rw [if_neg he]; cases h; exact hQ
    · cases h
  | loop c =>
    simp only [stepR] at h
    split at h
    · rename_i r hrun
      obtain ⟨re, rs⟩ := r
      unfold wpS
      cases re with
      | nrm =>
        have h2 := hr _ _ _ _ h (fun e' s' => e' = e ∧ s' = st') ⟨rfl, rfl⟩
        unfold wpS at h2
        obtain ⟨R, k1, k2⟩ := h2
        refine ⟨R, Holds.in ?_, fun e' s' hR => by obtain ⟨rfl, rfl⟩ := k2 _ _ hR; exact hQ⟩
        simp only [stepJ]
        exact hr c st .nrm rs hrun _ k1
      | ret =>
        cases h
        refine ⟨fun e' s' => e' = .ret ∧ s' = st', Holds.in ?_, fun e' s' hR => by obtain ⟨rfl, rfl⟩ := hR; exact hQ⟩
        simp only [stepJ]
        exact hr c st .ret _ hrun _ ⟨rfl, rfl⟩
      | exit id =>
        cases h
        refine ⟨fun e' s' => e' = .exit id ∧ s' = st', Holds.in ?_, fun e' s' hR => by obtain ⟨rfl, rfl⟩ := hR; exact hQ⟩
        simp only [stepJ]
        exact hr c st (.exit id) _ hrun _ ⟨rfl, rfl⟩
    · cases h
  | exit id => cases h; exact hQ
  | ret => cases h; exact hQ
  | stop => cases h
  | sub c => unfold wpS; exact hr _ _ _ _ h _ hQ
  | keep ss ps => cases h; exact hQ
  | frz s =>
    simp only [stepR] at h
    unfold wpS
    split at h
    · rename_i a ha
      rw [ha]
      simp only
      split at h
      · rename_i r hz; rw [hz]; cases h; exact hQ
      · cases h
    · cases h
  | rng x J f slots =>
    simp only [stepR] at h
    unfold wpS
    split at h
    · rename_i fc caps hf hs
      rw [hf, hs]
      simp only
      split at h
      · cases h
      · rename_i hl
        split at h
        · rename_i q hq
          refine ⟨hl, q, recF_ok hr hF hO hq, ?_⟩
          split at h
          · rename_i hb; rw [hb]; cases h; exact hQ
          · rename_i n' hb; rw [hb]; cases h; exact hQ
          · cases h
        · cases h
    · cases h
  | rnd ss a c =>
    simp only [stepR] at h
    unfold wpS
    split at h
    · rename_i env he
      rw [he]
      simp only
      split at h
      · rename_i r hrun
        obtain ⟨re, rs⟩ := r
        refine hr a _ re rs hrun _ ?_
        cases re with
        | nrm =>
          simp only at h ⊢
          split at h
          · rename_i r2 hrun2
            cases h
            exact hr c _ r2.1 r2.2 hrun2 _ hQ
          · cases h
        | ret => cases h
        | exit id => cases h
      · cases h
    · cases h

theorem runC_ok (hT : ExtOk T) (hF : ∀ f fn, F f = some fn → T f = some (.code fn)) (hO : OrcOk T O) : ∀ n, RecOk T (runC F O n)
  | 0 => fun _ _ _ _ h => by cases h
  | n + 1 => stepR_ok hT hF hO (runC_ok hT hF hO n)

theorem runF_ok (hT : ExtOk T) (hF : ∀ f fn, F f = some fn → T f = some (.code fn)) (hO : OrcOk T O) (n : Nat) : OrcOk T (runF F O n) :=
  fun _ _ _ _ _ h => recF_ok (runC_ok hT hF hO n) hF hO h

end Go.Fw
