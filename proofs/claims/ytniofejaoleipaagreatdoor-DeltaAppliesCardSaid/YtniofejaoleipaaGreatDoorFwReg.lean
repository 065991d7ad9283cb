import Derived.Test.YtniofejaoleipaaGreatDoorFwIns
/-
  A region, in the order of the text and in any order that its edges leave open.
-/
namespace Go.Fw
variable [YI]

omit [YI] in
theorem lk_wrO (ob : Ob) (x : Wr) (p : Nat) (h : p ≠ x.key) : lk (wrO ob x) p = lk ob p := by
  cases x with
  | o q g a => simp only [wrO, lk_up]; rw [if_neg (show ¬ p = q from h)]
  | del q => simp only [wrO, lk_rm]; rw [if_neg (show ¬ p = q from h)]
omit [YI] in
theorem wrO_hit (ob ob' : Ob) (x : Wr) : lk (wrO ob x) x.key = lk (wrO ob' x) x.key := by
  cases x with
  | o q g a => simp only [wrO, lk_up, Wr.key, if_true]
  | del q => simp only [wrO, lk_rm, Wr.key, if_true]
omit [YI] in
theorem lk_wrsO_miss : ∀ (l : List Wr) (ob : Ob) (p : Nat), p ∉ keysOf l → lk (wrsO ob l) p = lk ob p
  | [], _, _, _ => rfl
  | x :: l, ob, p, h => by
    simp only [keysOf, List.mem_cons, not_or] at h
    show lk (wrsO (wrO ob x) l) p = _
    rw [lk_wrsO_miss l _ p h.2, lk_wrO ob x p h.1]
omit [YI] in
theorem lk_wrsO_congr : ∀ (l : List Wr) (ob ob' : Ob) (p : Nat), lk ob p = lk ob' p → lk (wrsO ob l) p = lk (wrsO ob' l) p
  | [], _, _, _, h => h
  | x :: l, ob, ob', p, h => by
    refine lk_wrsO_congr l _ _ p ?_
    by_cases e : p = x.key
    · subst e; exact wrO_hit ob ob' x
    · rw [lk_wrO ob x p e, lk_wrO ob' x p e, h]
omit [YI] in
theorem lk_wrsO_hit : ∀ (l : List Wr) (ob ob' : Ob) (p : Nat), p ∈ keysOf l → lk (wrsO ob l) p = lk (wrsO ob' l) p
  | [], _, _, _, h => by simp [keysOf] at h
  | x :: l, ob, ob', p, h => by
    by_cases e : p = x.key
    · subst e; exact lk_wrsO_congr l _ _ _ (wrO_hit ob ob' x)
    · simp only [keysOf, List.mem_cons] at h
      exact lk_wrsO_hit l _ _ p (h.resolve_left e)

omit [YI] in
theorem Fx.miss (f : Fx) (ob : Ob) (p : Nat) (h : ¬ f.hits p) : lk (f.app ob) p = lk ob p := by
  cases f with
  | wr l => exact lk_wrsO_miss l ob p h
  | all o => exact (h trivial).elim
omit [YI] in
theorem Fx.congr (f : Fx) (ob ob' : Ob) (p : Nat) (h : f.hits p ∨ lk ob p = lk ob' p) : lk (f.app ob) p = lk (f.app ob') p := by
  cases f with
  | wr l =>
    rcases h with h | h
    · exact lk_wrsO_hit l ob ob' p h
    · exact lk_wrsO_congr l ob ob' p h
  | all o => rfl

omit [YI] in
theorem putE_lk (env : Env) (d : Option Nat) (a : AV) (n : Nat) : lk (putE env d a) n = if d = some n then some a else lk env n := by
  cases d with
  | none => simp [putE]
  | some d =>
    simp only [putE, lk_up, Option.some.injEq]
    by_cases h : n = d
    · subst h; simp
    · rw [if_neg h, if_neg (fun e => h e.symm)]

/-! ### Two sets that agree on who writes -/

omit [YI] in
theorem stX_env : ∀ (es : List Eff) (j : Nat) (X Y : Nat → Bool) (st st' : St) (n : Nat), lk st.env n = lk st'.env n → (∀ k e, es[k]? = some e → e.dst = some n → X (j + k) = Y (j + k)) →
    lk (stX es j X st).env n = lk (stX es j Y st').env n
  | [], _, _, _, _, _, _, h, _ => h
  | e :: es, j, X, Y, st, st', n, h, hk => by
    unfold stX
    refine stX_env es (j + 1) X Y _ _ n ?_ fun k e' h1 h2 => ?_
    · by_cases hd : e.dst = some n
      · have := hk 0 e rfl hd
        rw [Nat.add_zero] at this
        rw [this]
        split
        · show lk (putE st.env e.dst e.val) n = lk (putE st'.env e.dst e.val) n
          rw [putE_lk, putE_lk, if_pos hd, if_pos hd]
        · exact h
      · have h1 : ∀ s : St, lk (e.app s).env n = lk s.env n := fun s => by show lk (putE s.env e.dst e.val) n = _; rw [putE_lk, if_neg hd]
        split <;> split <;> simp only [h1, h]
    · have := hk (k + 1) e' (by simpa using h1) h2
      rwa [show j + (k + 1) = j + 1 + k by omega] at this

omit [YI] in
theorem stX_ob : ∀ (es : List Eff) (j : Nat) (X Y : Nat → Bool) (st st' : St) (p : Nat), lk st.ob p = lk st'.ob p → (∀ k e, es[k]? = some e → e.fx.hits p → X (j + k) = Y (j + k)) →
    lk (stX es j X st).ob p = lk (stX es j Y st').ob p
  | [], _, _, _, _, _, _, h, _ => h
  | e :: es, j, X, Y, st, st', p, h, hk => by
    unfold stX
    refine stX_ob es (j + 1) X Y _ _ p ?_ fun k e' h1 h2 => ?_
    · by_cases hd : e.fx.hits p
      · have := hk 0 e rfl hd
        rw [Nat.add_zero] at this
        rw [this]
        split
        · exact Fx.congr e.fx _ _ p (.inl hd)
        · exact h
      · have h1 : ∀ s : St, lk (e.app s).ob p = lk s.ob p := fun s => Fx.miss e.fx s.ob p hd
        split <;> split <;> simp only [h1, h]
    · have := hk (k + 1) e' (by simpa using h1) h2
      rwa [show j + (k + 1) = j + 1 + k by omega] at this

omit [YI] in
theorem stX_tk : ∀ (es : List Eff) (j : Nat) (X Y : Nat → Bool) (st st' : St), st.tk = st'.tk → (∀ k e, es[k]? = some e → e.tk ≠ none → X (j + k) = Y (j + k)) → (stX es j X st).tk = (stX es j Y st').tk
  | [], _, _, _, _, _, h, _ => h
  | e :: es, j, X, Y, st, st', h, hk => by
    unfold stX
    refine stX_tk es (j + 1) X Y _ _ ?_ fun k e' h1 h2 => ?_
    · by_cases hd : e.tk = none
      · have h1 : ∀ s : St, (e.app s).tk = s.tk := fun s => by show e.tk.getD s.tk = _; rw [hd]; rfl
        split <;> split <;> simp only [h1, h]
      · have := hk 0 e rfl hd
        rw [Nat.add_zero] at this
        rw [this]
        split
        · show e.tk.getD st.tk = e.tk.getD st'.tk
          rw [h]
        · exact h
    · have := hk (k + 1) e' (by simpa using h1) h2
      rwa [show j + (k + 1) = j + 1 + k by omega] at this

/-- Nobody behind writes what e writes. -/
def Quiet (e : Eff) (es : List Eff) (j : Nat) (X : Nat → Bool) : Prop :=
  ∀ k e', es[k]? = some e' → X (j + k) = true → (∀ n, e.dst = some n → e'.dst ≠ some n) ∧ (∀ p, e.fx.hits p → ¬ e'.fx.hits p) ∧ (e.tk ≠ none → e'.tk = none)

def StEq (s t : St) : Prop := (∀ n, lk s.env n = lk t.env n) ∧ (∀ p, lk s.ob p = lk t.ob p) ∧ s.tk = t.tk

omit [YI] in
theorem stX_comm {e : Eff} {es : List Eff} {j : Nat} {X : Nat → Bool} {st : St} (h : Quiet e es j X) : StEq (stX es j X (e.app st)) (e.app (stX es j X st)) := by
  have hf : ∀ k e', es[k]? = some e' → ∀ P : Prop, (X (j + k) = true → ¬ P) → P → X (j + k) = false := by
    intro k e' _ P h1 h2
    cases hx : X (j + k) with
    | false => rfl
    | true => exact (h1 hx h2).elim
  have none_env : ∀ (s : St) (j0 : Nat) (l : List Eff), stX l j0 (fun _ => false) s = s := fun s j0 l => stX_none l j0 _ s fun _ _ => rfl
  refine ⟨fun n => ?_, fun p => ?_, ?_⟩
  · by_cases hd : e.dst = some n
    · have h1 : lk (stX es j X (e.app st)).env n = lk (e.app st).env n := by
        rw [← none_env (e.app st) j es]
        exact stX_env es j X (fun _ => false) _ _ n (by rw [none_env]) fun k e' h1 h2 => hf k e' h1 (e'.dst = some n) (fun hx => (h k e' h1 hx).1 n hd) h2
      rw [h1]
      show lk (putE st.env e.dst e.val) n = lk (putE (stX es j X st).env e.dst e.val) n
      rw [putE_lk, putE_lk, if_pos hd, if_pos hd]
    · have h2 : lk (e.app (stX es j X st)).env n = lk (stX es j X st).env n := by
        show lk (putE _ e.dst e.val) n = _
        rw [putE_lk, if_neg hd]
      rw [h2]
      refine stX_env es j X X _ _ n ?_ fun _ _ _ _ => rfl
      show lk (putE st.env e.dst e.val) n = _
      rw [putE_lk, if_neg hd]
  · by_cases hd : e.fx.hits p
    · have h1 : lk (stX es j X (e.app st)).ob p = lk (e.app st).ob p := by
        rw [← none_env (e.app st) j es]
        exact stX_ob es j X (fun _ => false) _ _ p (by rw [none_env]) fun k e' h1 h2 => hf k e' h1 (e'.fx.hits p) (fun hx => (h k e' h1 hx).2.1 p hd) h2
      rw [h1]
      exact Fx.congr e.fx _ _ p (.inl hd)
    · have h2 : lk (e.app (stX es j X st)).ob p = lk (stX es j X st).ob p := Fx.miss e.fx _ p hd
      rw [h2]
      exact stX_ob es j X X _ _ p (Fx.miss e.fx _ p hd) fun _ _ _ _ => rfl
  · by_cases hd : e.tk = none
    · have h1 : ∀ s : St, (e.app s).tk = s.tk := fun s => by show e.tk.getD s.tk = _; rw [hd]; rfl
      rw [h1]
      exact stX_tk es j X X _ _ (h1 st) fun _ _ _ _ => rfl
    · have h1 : (stX es j X (e.app st)).tk = (e.app st).tk := by
        rw [← none_env (e.app st) j es]
        refine stX_tk es j X (fun _ => false) _ _ (by rw [none_env]) fun k e' h1 h2 => hf k e' h1 (e'.tk ≠ none) (fun hx hn => hn ((h k e' h1 hx).2.2 hd)) h2
      rw [h1]
      show e.tk.getD _ = e.tk.getD _
      cases he : e.tk with
      | none => exact (hd he).elim
      | some t => rfl

omit [YI] in
theorem stX_congrX : ∀ (es : List Eff) (j : Nat) (X Y : Nat → Bool) (st : St), (∀ k, j ≤ k → X k = Y k) → stX es j X st = stX es j Y st
  | [], _, _, _, _, _ => rfl
  | e :: es, j, X, Y, st, h => by
    unfold stX
    rw [h j (Nat.le_refl _)]
    exact stX_congrX es (j + 1) X Y _ fun k hk => h k (by omega)

/-- One more. -/
def ins1 (X : Nat → Bool) (J : Nat) : Nat → Bool := fun k => if k = J then true else X k

omit [YI] in
theorem stX_insert : ∀ (es : List Eff) (j m : Nat) (X : Nat → Bool) (st : St) (e : Eff), es[m]? = some e → X (j + m) = false →
    (∀ k e', m < k → es[k]? = some e' → X (j + k) = true → (∀ n, e.dst = some n → e'.dst ≠ some n) ∧ (∀ p, e.fx.hits p → ¬ e'.fx.hits p) ∧ (e.tk ≠ none → e'.tk = none)) →
    StEq (stX es j (ins1 X (j + m)) st) (e.app (stX es j X st))
  | [], _, _, _, _, _, h, _, _ => by simp at h
  | e0 :: es, j, 0, X, st, e, h, hx, hq => by
    simp only [List.getElem?_cons_zero, Option.some.injEq] at h
    subst h
    rw [Nat.add_zero] at hx ⊢
    unfold stX
    have h1 : ins1 X j j = true := by simp [ins1]
    rw [h1, hx]
    simp only [if_true, Bool.false_eq_true, if_false]
    rw [stX_congrX es (j + 1) (ins1 X j) X _ fun k hk => by unfold ins1; rw [if_neg (by omega)]]
    exact stX_comm fun k e' k1 k2 => hq (k + 1) e' (by omega) (by simpa using k1) (by rwa [show j + (k + 1) = j + 1 + k by omega])
  | e0 :: es, j, m + 1, X, st, e, h, hx, hq => by
    simp only [List.getElem?_cons_succ] at h
    unfold stX
    have h1 : ins1 X (j + (m + 1)) j = X j := by unfold ins1; rw [if_neg (by omega)]
    rw [h1]
    rw [show j + (m + 1) = j + 1 + m by omega] at hx ⊢
    exact stX_insert es (j + 1) m X _ e h hx fun k e' k1 k2 k3 => hq (k + 1) e' (by omega) (by simpa using k2) (by rwa [show j + (k + 1) = j + 1 + k by omega])

section
variable {P : Program} {num : Nat → FuncId} {N : Nat} {ops : Array Oper}

def chkIs (P : Program) (num : Nat → FuncId) (N : Nat) (ops : Array Oper) : List Oper → List Ins → Bool
  | [], [] => true
  | o :: os, i :: is => chkI P num N ops o i && chkIs P num N ops os is
  | _, _ => false

omit [YI] in
theorem chkIs_get : ∀ {os : List Oper} {is : List Ins}, chkIs P num N ops os is = true → os.length = is.length ∧ ∀ (j : Nat) o i, os[j]? = some o → is[j]? = some i → chkI P num N ops o i = true
  | [], [], _ => ⟨rfl, by simp⟩
  | o :: os, i :: is, h => by
    simp only [chkIs, Bool.and_eq_true] at h
    obtain ⟨h1, h2⟩ := chkIs_get h.2
    refine ⟨by simp [h1], fun j o' i' h3 h4 => ?_⟩
    cases j with
    | zero => simp at h3 h4; subst h3; subst h4; exact h.1
    | succ j => exact h2 j o' i' (by simpa using h3) (by simpa using h4)
  | [], _ :: _, h => by simp [chkIs] at h
  | _ :: _, [], h => by simp [chkIs] at h

/-- All that is fixed in the course of a region. -/
structure Reg (P : Program) (num : Nat → FuncId) (N : Nat) (ops : Array Oper) (d : Nat) (S : Job → Prop) (un : List (Nat × Nat)) (is : List Ins) (es : List Eff) (t0 : Nat) (st : St) : Prop where
  sound : ∀ f args ob tk R, S (.call f args ob tk R) → CallJob P num f args ob tk R
  chk : chkIs P num N ops ((ops.toList.drop d).take is.length) is = true
  facts : Facts S t0 is 0 st es
  clash : Clash un es
  tick : (∃ e ∈ es, e.tk ≠ none) → un = []
  pos : 1 ≤ t0
  next : st.tk = nextTk t0 is
  up : ∀ f args ob tk R, S (.call f args ob tk R) → ∃ a o t, R a o t ∧ tk ≤ t

/-- Where a run stands that has done the operations of X. -/
def AtX (num : Nat → FuncId) (is : List Ins) (es : List Eff) (t0 : Nat) (st : St) (w0 : World) (F0 : Nat → Prop) (β0 : Beta) (a0 : Act) (X : Nat → Bool) (a : Act) (w : World) : Prop :=
  ∃ F β, ERep num w F β (stX es 0 X st).env a.tmps ∧ Step num w0 F0 β0 st.ob w F β (stX es 0 X st).ob (fun g => g = 0 ∨ t0 ≤ g) ∧ a.tmps.size = a0.tmps.size ∧ a.defers = a0.defers ∧
    (∀ p g x, β p g = some x → g < (stX es 0 X st).tk ∧ ∀ k i, is[k]? = some i → i.gen = true → X k = false → g ≠ t0 + k) ∧ st.tk ≤ (stX es 0 X st).tk

omit [YI] in
theorem InsFact.tk {S : Job → Prop} {t0 j : Nat} {i : Ins} {st : St} {e : Eff} (hup : ∀ f args ob tk R, S (.call f args ob tk R) → ∃ a o t, R a o t ∧ tk ≤ t) (h : InsFact S t0 j i st e) : ∀ t, e.tk = some t → st.tk ≤ t := by
  intro t ht
  unfold InsFact at h
  split at h
  · exact h.elim
  · subst h; cases ht
  · cases i with
    | m dst g o => obtain ⟨a, h1, rfl⟩ := h; cases ht
    | p dst g o => obtain ⟨a, h1, rfl⟩ := h; cases ht
    | r dst g o => obtain ⟨a, h1, rfl⟩ := h; cases ht
    | w dst g o => obtain ⟨a, h1, rfl⟩ := h; cases ht
    | fin g n s y => obtain ⟨a, b, p, h1, h2, h3, rfl⟩ := h; cases ht
    | call dst g f args res =>
      cases res with
      | frz ks => obtain ⟨fc, p, b, h1, h2, h3, h4, rfl⟩ := h; cases ht
      | own q k => obtain ⟨fc, p, xs, h1, h2, h3, h4, h5, rfl⟩ := h; cases ht
    | calli dst g f args =>
      obtain ⟨fc, as, ob0, q, h1, h2, h3, h4, rfl⟩ := h
      cases ht
      obtain ⟨a, o, t', h5, h6⟩ := hup _ _ _ _ _ h4
      subst h5
      exact h6
    | cally dst g x args =>
      obtain ⟨y, as, fc, ob0, q, c, h1, h2, h3, h4, h5, h6, rfl⟩ := h
      cases ht
      obtain ⟨a, o, t', h7, h8⟩ := hup _ _ _ _ _ h5
      subst h7
      exact h8

omit [YI] in
theorem gen_next {is : List Ins} {k t0 : Nat} {i : Ins} (hk : is[k]? = some i) (hg : i.gen = true) : t0 + k < nextTk t0 is := by
  have h1 : anyGen is = true := by
    clear t0
    induction is generalizing k with
    | nil => simp at hk
    | cons a r ih =>
      unfold anyGen
      cases k with
      | zero => simp at hk; subst hk; rw [hg]
      | succ k =>
        simp at hk
        have := ih hk
        split
        · rfl
        · exact this
  have h2 : k < is.length := (List.getElem?_eq_some_iff.1 hk).1
  unfold nextTk
  rw [h1]
  dsimp only
  omega

/-- One operation, whose neighbours leave it what it looks at. -/
theorem reg_step {S : Job → Prop} {un : List (Nat × Nat)} {is : List Ins} {es : List Eff} {t0 : Nat} {st : St} {d : Nat} (hR : Reg P num N ops d S un is es t0 st) {r : Option Nat} {w0 : World} {F0 : Nat → Prop} {β0 : Beta} {a0 a : Act} {w : World} {X : Nat → Bool} {j : Nat} {i : Ins} {e : Eff}
    (hN : N ≤ a0.tmps.size) (hj : is[j]? = some i) (he : es[j]? = some e) (hX : X j = false) (hat : AtX num is es t0 st w0 F0 β0 a0 X a w)
    (agreeE : ∀ n ∈ i.slots, ∀ k e', es[k]? = some e' → e'.dst = some n → decide (k < j) = X k) (agreeO : ∀ p, p ∈ e.rd ∨ e.fx.hits p → ∀ k e', es[k]? = some e' → e'.fx.hits p → decide (k < j) = X k)
    (agreeT : e.tk ≠ none → ∀ k e', es[k]? = some e' → e'.tk ≠ none → decide (k < j) = X k)
    (later : ∀ k e', j < k → es[k]? = some e' → X k = true → (∀ n, e.dst = some n → e'.dst ≠ some n) ∧ (∀ p, e.fx.hits p → ¬ e'.fx.hits p) ∧ (e.tk ≠ none → e'.tk = none))
    {Q : Exit → Act → World → Prop} {K : Act → World → Prop} (hK : ∀ a' w', AtX num is es t0 st w0 F0 β0 a0 (ins1 X j) a' w' → K a' w') : wpOpIn (FF r) 0 P ops Q (d + j) K a w := by
  obtain ⟨F, β, h1, h2, h3, h4, h5, h6⟩ := hat
  obtain ⟨c1, c2⟩ := chkIs_get hR.chk
  obtain ⟨e', g1, g2⟩ := Facts.get is 0 st es hR.facts j i hj
  rw [he] at g1
  cases g1
  rw [Nat.zero_add] at g2
  have hjl : j < is.length := (List.getElem?_eq_some_iff.1 hj).1
  have hlt : d + j < ops.size := by
    rw [← c1] at hjl
    simp at hjl
    omega
  obtain ⟨o, ho⟩ : ∃ o, ops[d + j]? = some o := ⟨ops[d + j], Array.getElem?_eq_getElem hlt⟩
  have ho' : ((ops.toList.drop d).take is.length)[j]? = some o := by
    rw [List.getElem?_take, if_pos hjl, List.getElem?_drop, Array.getElem?_toList]
    exact ho
  have hfact : InsFact S t0 j i (stX es 0 X st) e := by
    refine g2.congr (fun n hn => ?_) (fun p hp => ?_) fun ht => ?_
    · exact stX_env es 0 _ X _ _ n rfl fun k e' k1 k2 => by rw [Nat.zero_add]; exact agreeE n hn k e' k1 k2
    · exact stX_ob es 0 _ X _ _ p rfl fun k e' k1 k2 => by rw [Nat.zero_add]; exact agreeO p hp k e' k1 k2
    · exact stX_tk es 0 _ X _ _ rfl fun k e' k1 k2 => by rw [Nat.zero_add]; exact agreeT ht k e' k1 k2
  have hins := stX_insert es 0 j X st e he (by rwa [Nat.zero_add]) fun k e' k1 k2 k3 => later k e' k1 k2 (by rwa [Nat.zero_add] at k3)
  rw [Nat.zero_add] at hins
  obtain ⟨i1, i2, i3⟩ := hins
  have ht1 : t0 ≤ st.tk := by rw [hR.next]; exact le_nextTk _ _
  refine ins_step hR.sound (c2 j o i ho' hj) ho hfact h1 h2.inv (by omega) (fun hg p => ?_) (fun p g x hx => (h5 p g x hx).1) (by have := hR.pos; omega) fun a' w' F' β' k1 k2 k3 k4 k5 => hK a' w' ?_
  · cases hb : β p (t0 + j) with
    | none => rfl
    | some x => exact ((h5 p _ x hb).2 j i hj hg hX rfl).elim
  · refine ⟨F', β', ?_, ?_, by rw [k3, h3], by rw [k4, h4], fun p g x hx => ?_, ?_⟩
    · intro n b hn
      exact k1 n b (by rw [← i1]; exact hn)
    · refine (h2.trans (k2.congr (fun _ => rfl) fun p => i2 p) (fun g h => h) fun g h => ?_)
      rcases h with h | ⟨_, h⟩ | ⟨h, _⟩
      · exact .inl h
      · exact .inr (by omega)
      · exact .inr (by omega)
    · rw [i3]
      rcases k2.gen p g x hx with h | h | ⟨hg, h⟩ | ⟨h, h'⟩
      · obtain ⟨q1, q2⟩ := h5 p g x h
        refine ⟨by omega, fun k i' l1 l2 l3 => ?_⟩
        unfold ins1 at l3
        split at l3
        · cases l3
        · exact q2 k i' l1 l2 l3
      · subst h
        have := hR.pos
        exact ⟨by omega, fun k i' _ _ _ => by omega⟩
      · subst h
        have := gen_next (t0 := t0) hj hg
        rw [← hR.next] at this
        refine ⟨by omega, fun k i' l1 l2 l3 hh => ?_⟩
        unfold ins1 at l3
        rw [if_pos (by omega)] at l3
        cases l3
      · refine ⟨h', fun k i' l1 l2 _ hh => ?_⟩
        have := gen_next (t0 := t0) l1 l2
        rw [← hR.next] at this
        omega
    · rw [i3]; omega
end
end Go.Fw
