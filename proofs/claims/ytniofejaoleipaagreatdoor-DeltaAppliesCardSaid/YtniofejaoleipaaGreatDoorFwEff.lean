import Derived.Test.YtniofejaoleipaaGreatDoorFwLoc
/-
  What the instructions of a region do, one by one in the order of the text; and in any order.
-/
namespace Go.Fw

theorem lk_rm' {δ : Type} : ∀ (l : List (Nat × δ)) (n m : Nat), lk (rm l n) m = if m = n then none else lk l m
  | [], n, m => by unfold rm lk; split <;> rfl
  | (k, c) :: r, n, m => by
    unfold rm
    by_cases h : n = k
    · subst h
      rw [if_pos rfl, lk_rm' r n m]
      by_cases hm : m = n
      · rw [if_pos hm, if_pos hm]
      · rw [if_neg hm, if_neg hm]; conv => rhs; unfold lk; rw [if_neg hm]
    · rw [if_neg h]
      unfold lk
      by_cases hk : m = k
      · subst hk
        rw [if_pos rfl, if_pos rfl, if_neg (fun e => h e.symm)]
      · rw [if_neg hk, if_neg hk]
        exact lk_rm' r n m
theorem lk_rmAll' {δ : Type} {ps : List Nat} : ∀ {l : List (Nat × δ)} {m : Nat}, lk (rmAll l ps) m = if m ∈ ps then none else lk l m := by
  induction ps with
  | nil => intro l m; unfold rmAll; simp
  | cons p ps ih =>
    intro l m
    unfold rmAll
    rw [ih, lk_rm']
    by_cases h1 : m ∈ ps
    · simp [h1]
    · by_cases h2 : m = p <;> simp [h1, h2]

inductive Fx where
  | wr (l : List Wr)
  | all (ob : Ob)
def Fx.app : Fx → Ob → Ob
  | .wr l, ob => wrsO ob l
  | .all ob', _ => ob'
def Fx.hits : Fx → Nat → Prop
  | .wr l, p => p ∈ keysOf l
  | .all _, _ => True

structure Eff where
  dst : Option Nat
  val : AV
  rd : List Nat
  fx : Fx
  tk : Option Nat

def Eff.app (e : Eff) (st : St) : St := ⟨putE st.env e.dst e.val, e.fx.app st.ob, e.tk.getD st.tk⟩

/-- What an instruction does in a state. -/
def InsFact (S : Job → Prop) (t0 j : Nat) (i : Ins) (st : St) (e : Eff) : Prop :=
  match i.guardOk st.env with
  | none => False
  | some false => e = ⟨i.dst, .und, [], .wr [], none⟩
  | some true => match i with
    | .m dst _ o => ∃ a, o.sem (X.ev st.env) = some a ∧ e = ⟨dst, a, [], .wr [], none⟩
    | .p dst _ o => ∃ a, o.sem (X.ev st.env) = some a ∧ e = ⟨dst, a, [], .wr [], none⟩
    | .r dst _ o => ∃ a, (o.sem (X.ev st.env)).run st.ob = some a ∧ e = ⟨dst, a, (o.sem (X.ev st.env)).seen st.ob, .wr [], none⟩
    | .w dst _ o => ∃ p, (o.sem (X.ev st.env) (t0 + j)).run st.ob = some p ∧ e = ⟨dst, p.1, (o.sem (X.ev st.env) (t0 + j)).seen st.ob, .wr p.2, none⟩
    | .fin _ n s y => ∃ a b p, lk st.env s = some a ∧ y.ev st.env = some b ∧ (finV n a b).run st.ob = some p ∧ e = ⟨some s, p.1, (finV n a b).seen st.ob, .wr p.2, none⟩
    | .call dst _ f args (.frz ks) => ∃ fc p b, f.ev st.env = some fc ∧ argsOf st.env st.ob 1 args = some p ∧ argsB p.2.1 1 (p.1 ++ fc.2) = true ∧
        S (.call fc.1 (p.1 ++ fc.2) p.2.1 1 fun a ob'' _ => frozen ob'' ks a = some b) ∧ e = ⟨dst, b, p.2.2, .wr (p.2.2.map .del), none⟩
    | .call dst _ f args (.own q k) => ∃ fc p xs, f.ev st.env = some fc ∧ argsOf st.env st.ob 1 args = some p ∧ argsB p.2.1 1 (p.1 ++ fc.2) = true ∧
        S (.call fc.1 (p.1 ++ fc.2) p.2.1 1 fun a ob'' _ => fresh ob'' k a = some xs) ∧ (keyOf q (t0 + j) ∉ p.2.2 → lk st.ob (keyOf q (t0 + j)) = none) ∧
        e = ⟨dst, .own (keyOf q (t0 + j)) (t0 + j) k 0 xs.length, p.2.2, .wr (p.2.2.map .del ++ [.o (keyOf q (t0 + j)) (t0 + j) (.arr k xs)]), none⟩
    | .calli dst _ f args => ∃ fc as ob0 q, f.ev st.env = some fc ∧ mapX (X.ev st.env) args = some as ∧ (∀ p, lk ob0 p = lk st.ob p) ∧
        S (.call fc.1 (as ++ fc.2) ob0 st.tk fun a o t => (a, o, t) = q) ∧ e = ⟨dst, q.1, [], .all q.2.1, some q.2.2⟩
    | .cally dst _ x args => ∃ y as fc ob0 q c, (x.ev st.env).bind ylOf = some y ∧ mapX (X.ev st.env) args = some as ∧ lpOf st.ob y.1 y.2 = some fc ∧ (∀ p, lk ob0 p = lk (rm st.ob y.1) p) ∧
        S (.call fc.1 (as ++ fc.2) ob0 st.tk fun a o t => (a, o, t) = q) ∧ intOf q.1 = some c ∧ e = ⟨dst, .v (.bool (c == 0)), [], .all (up q.2.1 y.1 (y.2, .lp fc.1 fc.2 (sOf c))), some q.2.2⟩

theorem mem_keysOf_append (l : List Wr) (x : Wr) (p : Nat) : p ∈ keysOf (l ++ [x]) ↔ p ∈ keysOf l ∨ p = x.key := by
  induction l with
  | nil => simp [keysOf]
  | cons y l ih => simp [keysOf, ih, or_assoc]
theorem keysOf_del (ps : List Nat) : keysOf (ps.map .del) = ps := by
  induction ps with
  | nil => rfl
  | cons p ps ih => simp [keysOf, ih, Wr.key]
theorem wrsO_append (l r : List Wr) : ∀ ob : Ob, wrsO ob (l ++ r) = wrsO (wrsO ob l) r := by
  induction l with
  | nil => intro ob; rfl
  | cons x l ih => intro ob; exact ih _
theorem wrsO_del (ps : List Nat) : ∀ ob : Ob, wrsO ob (ps.map .del) = rmAll ob ps := by
  induction ps with
  | nil => intro ob; rfl
  | cons p ps ih => intro ob; exact ih _

theorem guard_dst {i : Ins} {env : Env} {b : Bool} (h : i.guardOk env = some b) : ∀ n ∈ gdSlots i.gd, (lk env n).isSome = true := by
  unfold Ins.guardOk at h
  intro n hn
  cases hg : i.gd with
  | none => rw [hg] at hn; simp [gdSlots] at hn
  | some x =>
    obtain ⟨s, w⟩ := x
    rw [hg] at h hn
    simp only [gdSlots, List.mem_singleton] at hn
    subst hn
    dsimp only at h
    split at h <;> simp_all

theorem guard_congr {i : Ins} {env env' : Env} (h : ∀ n ∈ gdSlots i.gd, lk env n = lk env' n) : i.guardOk env = i.guardOk env' := by
  unfold Ins.guardOk
  cases hg : i.gd with
  | none => rfl
  | some x =>
    obtain ⟨s, w⟩ := x
    rw [hg] at h
    dsimp only
    rw [h s (by simp [gdSlots])]

theorem Ins.gd_slots (i : Ins) : ∀ n ∈ gdSlots i.gd, n ∈ i.slots := by
  intro n hn
  cases i <;> exact List.mem_append_left _ hn

theorem InsFact.congr {S : Job → Prop} {t0 j : Nat} {i : Ins} {st st' : St} {e : Eff} (h : InsFact S t0 j i st e) (he : ∀ n ∈ i.slots, lk st.env n = lk st'.env n)
    (ho : ∀ p, p ∈ e.rd ∨ e.fx.hits p → lk st.ob p = lk st'.ob p) (ht : e.tk ≠ none → st.tk = st'.tk) : InsFact S t0 j i st' e := by
  unfold InsFact at h ⊢
  rw [← guard_congr fun n hn => he n (i.gd_slots n hn)]
  split at h
  · exact h.elim
  · exact h
  · cases i with
    | m dst g o =>
      obtain ⟨a, h1, h2⟩ := h
      exact ⟨a, by rw [← MV.sem_congr (o := o) fun n hn => he n (List.mem_append_right _ hn)]; exact h1, h2⟩
    | p dst g o =>
      obtain ⟨a, h1, h2⟩ := h
      exact ⟨a, by rw [← PO.sem_congr (o := o) fun n hn => he n (List.mem_append_right _ hn)]; exact h1, h2⟩
    | r dst g o =>
      obtain ⟨a, h1, rfl⟩ := h
      have e1 := RO.sem_congr (o := o) (env := st.env) (env' := st'.env) fun n hn => he n (List.mem_append_right _ hn)
      obtain ⟨e2, e3⟩ := MO.run_congr (o.sem (X.ev st.env)) fun p hp => ho p (.inl hp)
      exact ⟨a, by rw [← e1, ← e2]; exact h1, by rw [← e1, ← e3]⟩
    | w dst g o =>
      obtain ⟨a, h1, rfl⟩ := h
      have e1 := WO.sem_congr (o := o) (g := t0 + j) (env := st.env) (env' := st'.env) fun n hn => he n (List.mem_append_right _ hn)
      obtain ⟨e2, e3⟩ := MO.run_congr (o.sem (X.ev st.env) (t0 + j)) fun p hp => ho p (.inl hp)
      exact ⟨a, by rw [← e1, ← e2]; exact h1, by rw [← e1, ← e3]⟩
    | fin g n s y =>
      obtain ⟨a, b, p, h1, h2, h3, rfl⟩ := h
      obtain ⟨e2, e3⟩ := MO.run_congr (finV n a b) fun p hp => ho p (.inl hp)
      refine ⟨a, b, p, ?_, ?_, by rw [← e2]; exact h3, by rw [← e3]⟩
      · rw [← he s (List.mem_append_right _ (List.mem_cons_self ..))]; exact h1
      · rw [← X.ev_congr (x := y) fun n hn => he n (List.mem_append_right _ (List.mem_cons_of_mem _ hn))]; exact h2
    | call dst g f args res =>
      have hf := ACall.ev_congr (f := f) (env := st.env) (env' := st'.env) fun n hn => he n (List.mem_append_right _ (List.mem_append_left _ hn))
      have ha := evArgs_congr (xs := args) (env := st.env) (env' := st'.env) fun n hn => he n (List.mem_append_right _ (List.mem_append_right _ hn))
      have key : ∀ p, argsOf st.env st.ob 1 args = some p → (∀ q ∈ p.2.2, lk st.ob q = lk st'.ob q) → argsOf st'.env st'.ob 1 args = some p := by
        intro p hp hq
        unfold argsOf at hp ⊢
        rw [← ha]
        split at hp
        · exact argsV_congr _ _ _ hp hq
        · cases hp
      cases res with
      | frz ks =>
        obtain ⟨fc, p, b, h1, h2, h3, h4, rfl⟩ := h
        exact ⟨fc, p, b, by rw [← hf]; exact h1, key p h2 fun q hq => ho q (.inl hq), h3, h4, rfl⟩
      | own q k =>
        obtain ⟨fc, p, xs, h1, h2, h3, h4, h5, rfl⟩ := h
        refine ⟨fc, p, xs, by rw [← hf]; exact h1, key p h2 fun q hq => ho q (.inl hq), h3, h4, fun hn => ?_, rfl⟩
        rw [← ho _ (.inr (by show _ ∈ keysOf _; rw [mem_keysOf_append]; exact .inr rfl))]
        exact h5 hn
    | calli dst g f args =>
      obtain ⟨fc, as, ob0, q, h1, h2, h3, h4, rfl⟩ := h
      have hf := ACall.ev_congr (f := f) (env := st.env) (env' := st'.env) fun n hn => he n (List.mem_append_right _ (List.mem_append_left _ hn))
      have ha := mapX_congr (xs := args) (env := st.env) (env' := st'.env) fun n hn => he n (List.mem_append_right _ (List.mem_append_right _ hn))
      exact ⟨fc, as, ob0, q, by rw [← hf]; exact h1, by rw [← ha]; exact h2, fun p => (h3 p).trans (ho p (.inr trivial)), by rw [← ht (by simp)]; exact h4, rfl⟩
    | cally dst g x args =>
      obtain ⟨y, as, fc, ob0, q, c, h1, h2, h3, h4, h5, h6, rfl⟩ := h
      have hx := X.ev_congr (x := x) (env := st.env) (env' := st'.env) fun n hn => he n (List.mem_append_right _ (List.mem_append_left _ hn))
      have ha := mapX_congr (xs := args) (env := st.env) (env' := st'.env) fun n hn => he n (List.mem_append_right _ (List.mem_append_right _ hn))
      have hall : ∀ p, lk st.ob p = lk st'.ob p := fun p => ho p (.inr trivial)
      refine ⟨y, as, fc, ob0, q, c, by rw [← hx]; exact h1, by rw [← ha]; exact h2, ?_, fun p => (h4 p).trans ?_, by rw [← ht (by simp)]; exact h5, h6, rfl⟩
      · unfold lpOf at h3 ⊢; rw [← hall]; exact h3
      · rw [lk_rm', lk_rm', hall]

/-- What an instruction writes is its own slot; what does not touch objects does nothing to them. -/
theorem InsFact.dst {S : Job → Prop} {t0 j : Nat} {i : Ins} {st : St} {e : Eff} (h : InsFact S t0 j i st e) : ∀ n, e.dst = some n → i.wslot = some n := by
  unfold InsFact at h
  intro n hn
  split at h
  · exact h.elim
  · subst h
    cases i <;> first | exact hn | cases hn
  · cases i with
    | m dst g o => obtain ⟨a, h1, rfl⟩ := h; exact hn
    | p dst g o => obtain ⟨a, h1, rfl⟩ := h; exact hn
    | r dst g o => obtain ⟨a, h1, rfl⟩ := h; exact hn
    | w dst g o => obtain ⟨a, h1, rfl⟩ := h; exact hn
    | fin g n s y => obtain ⟨a, b, p, h1, h2, h3, rfl⟩ := h; exact hn
    | call dst g f args res =>
      cases res with
      | frz ks => obtain ⟨fc, p, b, h1, h2, h3, h4, rfl⟩ := h; exact hn
      | own q k => obtain ⟨fc, p, xs, h1, h2, h3, h4, h5, rfl⟩ := h; exact hn
    | calli dst g f args => obtain ⟨fc, as, ob0, q, h1, h2, h3, h4, rfl⟩ := h; exact hn
    | cally dst g x args => obtain ⟨y, as, fc, ob0, q, c, h1, h2, h3, h4, h5, h6, rfl⟩ := h; exact hn

theorem InsFact.touch {S : Job → Prop} {t0 j : Nat} {i : Ins} {st : St} {e : Eff} (h : InsFact S t0 j i st e) (p : Nat) (hp : p ∈ e.rd ∨ e.fx.hits p ∨ e.tk ≠ none) : i.touch = true := by
  unfold InsFact at h
  split at h
  · exact h.elim
  · subst h
    simp [Fx.hits, keysOf] at hp
  · cases i with
    | m dst g o => obtain ⟨a, h1, rfl⟩ := h; simp [Fx.hits, keysOf] at hp
    | p dst g o => obtain ⟨a, h1, rfl⟩ := h; simp [Fx.hits, keysOf] at hp
    | _ => rfl

theorem InsFact.rdo {S : Job → Prop} {t0 j : Nat} {i : Ins} {st : St} {e : Eff} (h : InsFact S t0 j i st e) (hi : i.rdo = true) : (∀ p, ¬ e.fx.hits p) ∧ e.tk = none := by
  unfold InsFact at h
  split at h
  · exact h.elim
  · subst h
    simp [Fx.hits, keysOf]
  · cases i with
    | m dst g o => obtain ⟨a, h1, rfl⟩ := h; simp [Fx.hits, keysOf]
    | p dst g o => obtain ⟨a, h1, rfl⟩ := h; simp [Fx.hits, keysOf]
    | r dst g o => obtain ⟨a, h1, rfl⟩ := h; simp [Fx.hits, keysOf]
    | _ => cases hi

/-- The facts of a region, in the order of the text. -/
def Facts (S : Job → Prop) (t0 : Nat) : List Ins → Nat → St → List Eff → Prop
  | [], _, _, [] => True
  | i :: is, j, st, e :: es => InsFact S t0 j i st e ∧ Facts S t0 is (j + 1) (e.app st) es
  | _, _, _, _ => False

/-- The state behind a set of the instructions. -/
def stX : List Eff → Nat → (Nat → Bool) → St → St
  | [], _, _, st => st
  | e :: es, j, X, st => stX es (j + 1) X (if X j then e.app st else st)

theorem stX_none : ∀ (es : List Eff) (j : Nat) (X : Nat → Bool) (st : St), (∀ k, j ≤ k → X k = false) → stX es j X st = st
  | [], _, _, _, _ => rfl
  | e :: es, j, X, st, h => by
    unfold stX
    rw [h j (Nat.le_refl _)]
    exact stX_none es (j + 1) X _ fun k hk => h k (by omega)

theorem Facts.get {S : Job → Prop} {t0 : Nat} : ∀ (is : List Ins) (j : Nat) (st : St) (es : List Eff), Facts S t0 is j st es → ∀ m i, is[m]? = some i →
    ∃ e, es[m]? = some e ∧ InsFact S t0 (j + m) i (stX es j (fun k => decide (k < j + m)) st) e
  | [], _, _, _, _, m, i, h => by simp at h
  | i0 :: is, j, st, [], hf, m, i, h => by exact hf.elim
  | i0 :: is, j, st, e0 :: es, hf, m, i, h => by
    obtain ⟨h1, h2⟩ := hf
    cases m with
    | zero =>
      simp only [List.getElem?_cons_zero, Option.some.injEq] at h
      subst h
      refine ⟨e0, rfl, ?_⟩
      rw [stX_none]
      · exact h1
      · intro k hk; simp; omega
    | succ m =>
      simp only [List.getElem?_cons_succ] at h
      obtain ⟨e, g1, g2⟩ := Facts.get is (j + 1) _ es h2 m i h
      refine ⟨e, by simpa using g1, ?_⟩
      unfold stX
      have e1 : (fun k => decide (k < j + (m + 1))) j = true := by simp
      rw [if_pos e1]
      have e2 : j + 1 + m = j + (m + 1) := by omega
      rw [e2] at g2
      exact g2

theorem Facts.len {S : Job → Prop} {t0 : Nat} : ∀ (is : List Ins) (j : Nat) (st : St) (es : List Eff), Facts S t0 is j st es → es.length = is.length
  | [], _, _, [], _ => rfl
  | [], _, _, _ :: _, h => h.elim
  | _ :: _, _, _, [], h => h.elim
  | _ :: is, j, _, _ :: es, h => by simp [Facts.len is (j + 1) _ es h.2]

/-- What two instructions whose order is open do to objects. -/
def Apart (a b : Eff) : Prop := (∀ p, a.fx.hits p → p ∉ b.rd ∧ ¬ b.fx.hits p) ∧ (∀ p, b.fx.hits p → p ∉ a.rd)
def Clash (un : List (Nat × Nat)) (es : List Eff) : Prop := ∀ a b ea eb, a < b → es[a]? = some ea → es[b]? = some eb → (a, b) ∈ un → Apart ea eb

/-- What has been noted of the instructions so far. -/
def AccOk (un : List (Nat × Nat)) (acc : List (Nat × List Nat × List Nat)) (pre : List Eff) : Prop :=
  ∀ a ea, pre[a]? = some ea → un ≠ [] → (∃ w, (a, ea.rd, w) ∈ acc ∧ ∀ p, ea.fx.hits p ↔ p ∈ w) ∨ (ea.rd = [] ∧ ∀ p, ¬ ea.fx.hits p)

theorem disj_spec {a b : List Nat} (h : disj a b = true) : ∀ p ∈ a, p ∉ b := by
  intro p hp hb
  simp only [disj, List.all_eq_true, bne_iff_ne, ne_eq] at h
  exact h p hp p hb rfl

theorem clashFree_spec {un : List (Nat × Nat)} {acc : List (Nat × List Nat × List Nat)} {j : Nat} {r w : List Nat} (h : clashFree un acc j r w = true) {i : Nat} {r' w' : List Nat} (hm : (i, r', w') ∈ acc) (hu : (i, j) ∈ un) :
    (∀ p ∈ w', p ∉ r ∧ p ∉ w) ∧ ∀ p ∈ w, p ∉ r' := by
  simp only [clashFree, List.all_eq_true] at h
  have := h _ hm
  simp only [Bool.or_eq_true, Bool.not_eq_true', Bool.and_eq_true] at this
  rcases this with h1 | ⟨h1, h2⟩
  · exfalso
    have : un.any (fun x => x.1 == i && x.2 == j) = true := List.any_eq_true.2 ⟨(i, j), hu, by simp⟩
    rw [this] at h1
    cases h1
  · refine ⟨fun p hp => ?_, disj_spec h2⟩
    have := disj_spec h1 p hp
    simp only [List.mem_append, not_or] at this
    exact this

theorem mem_logIf {un : List (Nat × Nat)} {acc : List (Nat × List Nat × List Nat)} {j : Nat} {r w : List Nat} (hu : un ≠ []) : (∀ x ∈ acc, x ∈ logIf un j r w acc) ∧ ((j, r, w) ∈ logIf un j r w acc ∨ (r = [] ∧ w = [])) := by
  unfold logIf
  cases un with
  | nil => exact (hu rfl).elim
  | cons u us =>
    cases r with
    | nil =>
      cases w with
      | nil => exact ⟨fun x h => h, .inr ⟨rfl, rfl⟩⟩
      | cons b bs => exact ⟨fun x h => List.mem_cons_of_mem _ h, .inl (List.mem_cons_self ..)⟩
    | cons a as => exact ⟨fun x h => List.mem_cons_of_mem _ h, .inl (List.mem_cons_self ..)⟩

/-- One more instruction. -/
theorem Clash.snoc {un : List (Nat × Nat)} {acc acc' : List (Nat × List Nat × List Nat)} {pre : List Eff} {e : Eff} (h : Clash un pre) (ha : AccOk un acc pre)
    (hx : (e.rd = [] ∧ (∀ p, ¬ e.fx.hits p) ∧ acc' = acc) ∨ un = [] ∨ ∃ w, (∀ p, e.fx.hits p ↔ p ∈ w) ∧ clashFree un acc pre.length e.rd w = true ∧ acc' = logIf un pre.length e.rd w acc) :
    Clash un (pre ++ [e]) ∧ AccOk un acc' (pre ++ [e]) := by
  have old : ∀ {a : Nat} {ea : Eff}, (pre ++ [e])[a]? = some ea → (a < pre.length ∧ pre[a]? = some ea) ∨ (a = pre.length ∧ ea = e) := by
    intro a ea hh
    by_cases hl : a < pre.length
    · rw [List.getElem?_append_left hl] at hh; exact .inl ⟨hl, hh⟩
    · rw [List.getElem?_append_right (by omega)] at hh
      have : a - pre.length = 0 := by
        rcases Nat.eq_zero_or_pos (a - pre.length) with h | h
        · exact h
        · have : ([e] : List Eff)[a - pre.length]? = none := List.getElem?_eq_none (by simp; omega)
          rw [this] at hh; cases hh
      rw [this] at hh
      simp at hh
      exact .inr ⟨by omega, hh.symm⟩
  refine ⟨fun a b ea eb hab h1 h2 hu => ?_, fun a ea h1 hu => ?_⟩
  · rcases old h2 with ⟨l2, h2⟩ | ⟨l2, rfl⟩
    · rcases old h1 with ⟨l1, h1⟩ | ⟨l1, rfl⟩
      · exact h a b ea eb hab h1 h2 hu
      · omega
    · rcases old h1 with ⟨l1, h1⟩ | ⟨l1, rfl⟩
      · rcases hx with ⟨g1, g2, _⟩ | g | ⟨w, g1, g2, _⟩
        · exact ⟨fun p _ => ⟨by rw [g1]; simp, g2 p⟩, fun p hp => (g2 p hp).elim⟩
        · rw [g] at hu; simp at hu
        · rcases ha a ea h1 (fun e => by rw [e] at hu; simp at hu) with ⟨w', k1, k2⟩ | ⟨k1, k2⟩
          · rw [l2] at hu
            obtain ⟨q1, q2⟩ := clashFree_spec g2 k1 hu
            exact ⟨fun p hp => ⟨(q1 p ((k2 p).1 hp)).1, fun hh => (q1 p ((k2 p).1 hp)).2 ((g1 p).1 hh)⟩, fun p hp => q2 p ((g1 p).1 hp)⟩
          · exact ⟨fun p hp => (k2 p hp).elim, fun p _ => by rw [k1]; simp⟩
      · omega
  · rcases old h1 with ⟨l1, h1⟩ | ⟨l1, rfl⟩
    · rcases hx with ⟨_, _, g3⟩ | g | ⟨w, g1, g2, g3⟩
      · rw [g3]; exact ha a ea h1 hu
      · exact (hu g).elim
      · rcases ha a ea h1 hu with ⟨w', k1, k2⟩ | k
        · exact .inl ⟨w', by rw [g3]; exact (mem_logIf hu).1 _ k1, k2⟩
        · exact .inr k
    · rcases hx with ⟨g1, g2, _⟩ | g | ⟨w, g1, g2, g3⟩
      · exact .inr ⟨g1, g2⟩
      · exact (hu g).elim
      · rcases (mem_logIf (acc := acc) (j := pre.length) (r := ea.rd) (w := w) hu).2 with k | ⟨k1, k2⟩
        · exact .inl ⟨w, by rw [g3, l1]; exact k, g1⟩
        · exact .inr ⟨k1, fun p hp => by have := (g1 p).1 hp; rw [k2] at this; simp at this⟩

theorem stX_true_cons (e : Eff) (es : List Eff) (j : Nat) (st : St) : stX (e :: es) j (fun _ => true) st = stX es (j + 1) (fun _ => true) (e.app st) := rfl

theorem clash_split {un : List (Nat × Nat)} {acc : List (Nat × List Nat × List Nat)} {j : Nat} {r w : List Nat} {K : Prop} (h : clash un acc j r w K) : (un = [] ∨ clashFree un acc j r w = true) ∧ K := by
  unfold clash at h
  cases un with
  | nil => exact ⟨.inl rfl, h⟩
  | cons u us => exact ⟨.inr h.1, h.2⟩

/-- The facts, out of what the region comes to. -/
theorem facts_of {S : Job → Prop} {un : List (Nat × Nat)} {t0 : Nat} : ∀ (is : List Ins) (pre : List Eff) (acc : List (Nat × List Nat × List Nat)) (st : St) (Q : St → Prop),
    wpOps S un t0 is pre.length acc st Q → AccOk un acc pre → Clash un pre →
    ∃ es, Facts S t0 is pre.length st es ∧ Clash un (pre ++ es) ∧ Q (stX es pre.length (fun _ => true) st) ∧ ((∃ e ∈ es, e.tk ≠ none) → un = [])
  | [], pre, acc, st, Q, h, _, hc => ⟨[], trivial, by simpa using hc, h, by simp⟩
  | i :: is, pre, acc, st, Q, h, ha, hc => by
    -- one instruction, and the rest
    have go : ∀ (e : Eff) (acc' : List (Nat × List Nat × List Nat)), InsFact S t0 pre.length i st e →
        ((e.rd = [] ∧ (∀ p, ¬ e.fx.hits p) ∧ acc' = acc) ∨ un = [] ∨ ∃ w, (∀ p, e.fx.hits p ↔ p ∈ w) ∧ clashFree un acc pre.length e.rd w = true ∧ acc' = logIf un pre.length e.rd w acc) →
        (e.tk ≠ none → un = []) → wpOps S un t0 is (pre.length + 1) acc' (e.app st) Q →
        ∃ es, Facts S t0 (i :: is) pre.length st es ∧ Clash un (pre ++ es) ∧ Q (stX es pre.length (fun _ => true) st) ∧ ((∃ e ∈ es, e.tk ≠ none) → un = []) := by
      intro e acc' hf hx ht hw
      obtain ⟨c1, c2⟩ := Clash.snoc hc ha hx
      have hl : (pre ++ [e]).length = pre.length + 1 := by simp
      obtain ⟨es, f1, f2, f3, f4⟩ := facts_of is (pre ++ [e]) acc' (e.app st) Q (by rw [hl]; exact hw) c2 c1
      rw [hl] at f1 f3
      refine ⟨e :: es, ⟨hf, f1⟩, by simpa using f2, by rw [stX_true_cons]; exact f3, ?_⟩
      rintro ⟨e', he', ht'⟩
      rcases List.mem_cons.1 he' with rfl | he'
      · exact ht ht'
      · exact f4 ⟨e', he', ht'⟩
    have hno : ∀ p, ¬ (Fx.wr []).hits p := fun p hp => by simp [Fx.hits, keysOf] at hp
    unfold wpOps at h
    split at h
    · exact h.elim
    · rename_i hg
      exact go ⟨i.dst, .und, [], .wr [], none⟩ acc (by unfold InsFact; rw [hg]) (.inl ⟨rfl, hno, rfl⟩) (by simp) h
    · rename_i hg
      cases i with
      | m dst gd o =>
        simp only at h
        split at h
        · exact h.elim
        · rename_i a hs
          exact go ⟨dst, a, [], .wr [], none⟩ acc (by unfold InsFact; rw [hg]; exact ⟨a, hs, rfl⟩) (.inl ⟨rfl, hno, rfl⟩) (by simp) h
      | p dst gd o =>
        simp only at h
        split at h
        · exact h.elim
        · rename_i a hs
          exact go ⟨dst, a, [], .wr [], none⟩ acc (by unfold InsFact; rw [hg]; exact ⟨a, hs, rfl⟩) (.inl ⟨rfl, hno, rfl⟩) (by simp) h
      | r dst gd o =>
        simp only at h
        split at h
        · exact h.elim
        · rename_i a hs
          obtain ⟨h1, h2⟩ := clash_split h
          exact go ⟨dst, a, _, .wr [], none⟩ _ (by unfold InsFact; rw [hg]; exact ⟨a, hs, rfl⟩) (h1.elim (fun h => .inr (.inl h)) fun h => .inr (.inr ⟨[], fun p => Iff.rfl, h, rfl⟩)) (by simp) h2
      | w dst gd o =>
        simp only at h
        split at h
        · exact h.elim
        · rename_i p hs
          obtain ⟨h1, h2⟩ := clash_split h
          exact go ⟨dst, p.1, _, .wr p.2, none⟩ _ (by unfold InsFact; rw [hg]; exact ⟨p, hs, rfl⟩) (h1.elim (fun h => .inr (.inl h)) fun h => .inr (.inr ⟨keysOf p.2, fun p => Iff.rfl, h, rfl⟩)) (by simp) h2
      | fin gd n s y =>
        simp only at h
        split at h
        · rename_i a b hs hy
          split at h
          · exact h.elim
          · rename_i p hr
            obtain ⟨h1, h2⟩ := clash_split h
            exact go ⟨some s, p.1, _, .wr p.2, none⟩ _ (by unfold InsFact; rw [hg]; exact ⟨a, b, p, hs, hy, hr, rfl⟩) (h1.elim (fun h => .inr (.inl h)) fun h => .inr (.inr ⟨keysOf p.2, fun p => Iff.rfl, h, rfl⟩)) (by simp) h2
        · exact h.elim
      | call dst gd f args res =>
        cases res with
        | frz ks =>
          simp only at h
          split at h
          · rename_i fc p hf hp
            obtain ⟨h1, h0, b, h2, h3⟩ := clash_split h
            refine go ⟨dst, b, p.2.2, .wr (p.2.2.map .del), none⟩ _ (by unfold InsFact; rw [hg]; exact ⟨fc, p, b, hf, hp, h0, h2, rfl⟩)
              (h1.elim (fun h => .inr (.inl h)) fun h => .inr (.inr ⟨p.2.2, fun q => by show q ∈ keysOf _ ↔ _; rw [keysOf_del], h, rfl⟩)) (by simp) ?_
            show wpOps S un t0 is _ _ ⟨_, wrsO st.ob (p.2.2.map .del), _⟩ Q
            rw [wrsO_del]
            exact h3
          · exact h.elim
        | own q k =>
          simp only at h
          split at h
          · rename_i fc p hf hp
            obtain ⟨hk, h⟩ := h
            obtain ⟨h1, h0, xs, h2, h3⟩ := clash_split h
            refine go ⟨dst, .own (keyOf q (t0 + pre.length)) (t0 + pre.length) k 0 xs.length, p.2.2, .wr (p.2.2.map .del ++ [.o (keyOf q (t0 + pre.length)) (t0 + pre.length) (.arr k xs)]), none⟩ _
              (by unfold InsFact; rw [hg]; exact ⟨fc, p, xs, hf, hp, h0, h2, fun hn => by rw [lk_rmAll', if_neg hn] at hk; exact hk, rfl⟩)
              (h1.elim (fun h => .inr (.inl h)) fun h => .inr (.inr ⟨_, fun q' => by show q' ∈ keysOf _ ↔ _; rw [mem_keysOf_append, keysOf_del, List.mem_cons, or_comm]; rfl, h, rfl⟩)) (by simp) ?_
            show wpOps S un t0 is _ _ ⟨_, wrsO st.ob (p.2.2.map .del ++ [_]), _⟩ Q
            rw [wrsO_append, wrsO_del]
            exact h3
          · exact h.elim
      | calli dst gd f args =>
        simp only at h
        split at h
        · rename_i fc as hf hs
          obtain ⟨h1, q, h2, h3⟩ := h
          exact go ⟨dst, q.1, [], .all q.2.1, some q.2.2⟩ acc (by unfold InsFact; rw [hg]; exact ⟨fc, as, st.ob, q, hf, hs, fun _ => rfl, h2, rfl⟩) (.inr (.inl h1)) (fun _ => h1) h3
        · exact h.elim
      | cally dst gd x args =>
        simp only at h
        split at h
        · rename_i y as hf hs
          split at h
          · rename_i fc hl
            obtain ⟨h1, q, h2, h3⟩ := h
            split at h3
            · rename_i c hc
              exact go ⟨dst, .v (.bool (c == 0)), [], .all (up q.2.1 y.1 (y.2, .lp fc.1 fc.2 (sOf c))), some q.2.2⟩ acc (by unfold InsFact; rw [hg]; exact ⟨y, as, fc, rm st.ob y.1, q, c, hf, hs, hl, fun _ => rfl, h2, hc, rfl⟩) (.inr (.inl h1)) (fun _ => h1) h3
            · exact h3.elim
          · exact h.elim
        · exact h.elim
end Go.Fw
