import Derived.Test.YtniofejaoleipaaGreatDoorFwReg
/-
  A region: what it comes to.
-/
namespace Go.Fw
variable [YI]

def binding (o : Oper) : List Nat := (o.after.toList.filter (Region.binds .any)).map (·.on)

/-- Who comes ahead of an operation. -/
def anc1 (acc : List (List Nat)) (o : Oper) : List Nat := (binding o).flatMap fun i => i :: acc.getD i []
def ancs : List Oper → List (List Nat) → List (List Nat)
  | [], acc => acc
  | o :: os, acc => ancs os (acc ++ [anc1 acc o])

def slotsApart (a b : Ins) : Bool :=
  (match a.wslot with | none => true | some s => !b.slots.contains s && decide (b.wslot ≠ some s)) &&
  (match b.wslot with | none => true | some s => !a.slots.contains s)
def pairOk (un : List (Nat × Nat)) (i j : Nat) (a b : Ins) : Bool := slotsApart a b && (!a.touch || !b.touch || (a.rdo && b.rdo) || un.contains (i, j))

/-- What the order leaves open is apart. -/
def ordOk (un : List (Nat × Nat)) (is : List Ins) (A : List (List Nat)) : Bool :=
  (List.range is.length).all fun j => (List.range j).all fun i => (A.getD j []).contains i || (match is[i]?, is[j]? with | some a, some b => pairOk un i j a b | _, _ => false)
def backOk : List Oper → Nat → Bool
  | [], _ => true
  | o :: os, j => (binding o).all (fun i => decide (i < j)) && backOk os (j + 1)

def chkR (P : Program) (num : Nat → FuncId) (N : Nat) (ops : Array Oper) (draw : Bool) (is : List Ins) (un : List (Nat × Nat)) : Bool :=
  decide (ops.size = is.length) && chkIs P num N ops ops.toList is && (!draw || (P.follows .mixedOrders && ordOk un is (ancs ops.toList []) && backOk ops.toList 0))

/-- A part of a region in the order of the text. -/
def chkT (P : Program) (num : Nat → FuncId) (N : Nat) (ops : Array Oper) (d : Nat) (is : List Ins) : Bool := chkIs P num N ops ((ops.toList.drop d).take is.length) is

/-- Closed under what comes ahead. -/
def Closed (ops : List Oper) (X : Nat → Bool) : Prop := ∀ j o, ops[j]? = some o → X j = true → ∀ i ∈ binding o, X i = true

omit [YI] in
theorem ancs_spec {X : Nat → Bool} (all : List Oper) (hX : Closed all X) : ∀ (os pre : List Oper) (acc : List (List Nat)), all = pre ++ os → acc.length = pre.length →
    (∀ (j : Nat) l, acc[j]? = some l → ∀ o, all[j]? = some o → (∀ i ∈ binding o, X i = true) → ∀ i ∈ l, X i = true) →
    ∀ (j : Nat) l, (ancs os acc)[j]? = some l → ∀ o, all[j]? = some o → (∀ i ∈ binding o, X i = true) → ∀ i ∈ l, X i = true
  | [], pre, acc, _, _, h => h
  | o0 :: os, pre, acc, he, hl, h => by
    unfold ancs
    refine ancs_spec all hX os (pre ++ [o0]) (acc ++ [anc1 acc o0]) (by simp [he]) (by simp [hl]) fun j l hj o ho hb i hi => ?_
    by_cases hlt : j < acc.length
    · rw [List.getElem?_append_left hlt] at hj
      exact h j l hj o ho hb i hi
    · have hlen := (List.getElem?_eq_some_iff.1 hj).1
      simp at hlen
      have hj' : j = acc.length := by omega
      subst hj'
      simp at hj
      subst hj
      have ho' : all[acc.length]? = some o0 := by rw [he, hl]; simp
      rw [ho'] at ho
      cases ho
      unfold anc1 at hi
      obtain ⟨k, hk, hi⟩ := List.mem_flatMap.1 hi
      rcases List.mem_cons.1 hi with rfl | hi
      · exact hb i hk
      · have hXk := hb k hk
        cases hl2 : acc[k]? with
        | none =>
          have : acc.getD k [] = [] := by simp [List.getD, hl2]
          rw [this] at hi
          simp at hi
        | some l2 =>
          have e2 : acc.getD k [] = l2 := by simp [List.getD, hl2]
          rw [e2] at hi
          have hk2 : k < all.length := by
            have := (List.getElem?_eq_some_iff.1 hl2).1
            rw [he]; simp; omega
          exact h k l2 hl2 (all[k]) (List.getElem?_eq_getElem hk2) (hX k _ (List.getElem?_eq_getElem hk2) hXk) i hi

omit [YI] in
theorem ancs_len : ∀ (os : List Oper) (acc : List (List Nat)), (ancs os acc).length = acc.length + os.length
  | [], acc => by simp [ancs]
  | o :: os, acc => by unfold ancs; rw [ancs_len os]; simp; omega

section
variable {P : Program} {num : Nat → FuncId} {N : Nat} {ops : Array Oper} {S : Job → Prop} {un : List (Nat × Nat)} {is : List Ins} {es : List Eff} {t0 : Nat} {st : St} {w0 : World} {F0 : Nat → Prop} {β0 : Beta} {a0 : Act} {r : Option Nat} {Q : Exit → Act → World → Prop} {d : Nat}

theorem AtX.congr {X Y : Nat → Bool} {a : Act} {w : World} (h : AtX num is es t0 st w0 F0 β0 a0 X a w) (hXY : ∀ k, k < is.length → X k = Y k) (hl : es.length = is.length) : AtX num is es t0 st w0 F0 β0 a0 Y a w := by
  have e : stX es 0 X st = stX es 0 Y st := by
    have : ∀ (l : List Eff) (j : Nat) (s : St), (∀ k, k < l.length → X (j + k) = Y (j + k)) → stX l j X s = stX l j Y s := by
      intro l
      induction l with
      | nil => intro j s _; rfl
      | cons e l ih =>
        intro j s hk
        unfold stX
        have h0 := hk 0 (by simp)
        rw [Nat.add_zero] at h0
        rw [h0]
        exact ih (j + 1) _ fun k hk' => by have := hk (k + 1) (by simp; omega); rwa [show j + (k + 1) = j + 1 + k by omega] at this
    exact this es 0 st fun k hk => by rw [Nat.zero_add]; exact hXY k (by omega)
  obtain ⟨F, β, h1, h2, h3, h4, h5, h6⟩ := h
  refine ⟨F, β, by rw [← e]; exact h1, by rw [← e]; exact h2, h3, h4, fun p g x hx => ?_, by rw [← e]; exact h6⟩
  rw [← e]
  exact ⟨(h5 p g x hx).1, fun k i hk hg hY => (h5 p g x hx).2 k i hk hg (by rw [hXY k (List.getElem?_eq_some_iff.1 hk).1]; exact hY)⟩

/-- The facts of each operation. -/
theorem Reg.get (hR : Reg P num N ops d S un is es t0 st) {j : Nat} {i : Ins} (hj : is[j]? = some i) : ∃ e st', es[j]? = some e ∧ InsFact S t0 j i st' e := by
  obtain ⟨e, h1, h2⟩ := Facts.get is 0 st es hR.facts j i hj
  exact ⟨e, _, h1, by rwa [Nat.zero_add] at h2⟩
theorem Reg.getE (hR : Reg P num N ops d S un is es t0 st) {j : Nat} {e : Eff} (hj : es[j]? = some e) : ∃ i st', is[j]? = some i ∧ InsFact S t0 j i st' e := by
  have hl := Facts.len is 0 st es hR.facts
  have hlt : j < is.length := by rw [← hl]; exact (List.getElem?_eq_some_iff.1 hj).1
  obtain ⟨e', st', h1, h2⟩ := hR.get (List.getElem?_eq_getElem hlt)
  rw [hj] at h1
  cases h1
  exact ⟨_, st', List.getElem?_eq_getElem hlt, h2⟩

theorem text_run (hR : Reg P num N ops d S un is es t0 st) (hN : N ≤ a0.tmps.size) (x : Nat) (hQ : ∀ a w, AtX num is es t0 st w0 F0 β0 a0 (fun _ => true) a w → wpOpsIn (FF r) 0 P ops Q (List.range' (d + is.length) x) a w) :
    ∀ (m j : Nat), j + m = is.length → ∀ (a : Act) (w : World), AtX num is es t0 st w0 F0 β0 a0 (fun k => decide (k < j)) a w → wpOpsIn (FF r) 0 P ops Q (List.range' (d + j) (m + x)) a w
  | 0, j, hjm, a, w, hat => by
    have hl := Facts.len is 0 st es hR.facts
    have hj : j = is.length := by omega
    subst hj
    rw [Nat.zero_add]
    exact hQ a w (hat.congr (fun k hk => by simp; omega) hl)
  | m + 1, j, hjm, a, w, hat => by
    have hl := Facts.len is 0 st es hR.facts
    rw [show m + 1 + x = (m + x) + 1 by omega, List.range'_succ, wpOpsIn_cons]
    have hlt : j < is.length := by omega
    obtain ⟨e, st', he, _⟩ := hR.get (List.getElem?_eq_getElem hlt)
    refine reg_step hR hN (List.getElem?_eq_getElem hlt) he (by simp) hat (fun _ _ k e' _ _ => rfl) (fun _ _ k e' _ _ => rfl) (fun _ k e' _ _ => rfl) (fun k e' h1 _ h3 => by simp at h3; omega) fun a' w' hat' => ?_
    refine text_run hR hN x hQ m (j + 1) (by omega) a' w' (hat'.congr (fun k _ => ?_) hl)
    unfold ins1
    split
    · simp; omega
    · simp only [decide_eq_decide]; omega

omit [YI] in
theorem countP_lt {p q : Nat → Bool} {i : Nat} : ∀ {l : List Nat}, (∀ x ∈ l, q x = true → p x = true) → i ∈ l → p i = true → q i = false → l.countP q < l.countP p
  | a :: l, h, hi, hp, hq => by
    have hle : l.countP q ≤ l.countP p := List.countP_mono_left fun x hx => h x (List.mem_cons_of_mem _ hx)
    rw [List.countP_cons, List.countP_cons]
    rcases List.mem_cons.1 hi with rfl | hi
    · rw [if_pos hp, if_neg (by rw [hq]; simp)]
      omega
    · have := countP_lt (fun x hx => h x (List.mem_cons_of_mem _ hx)) hi hp hq
      have h1 := h a (List.mem_cons_self ..)
      cases hqa : q a with
      | false => simp; split <;> omega
      | true => rw [h1 hqa]; simp; omega

omit [YI] in
theorem binding_mem {o : Oper} {e : Edge} (h : e ∈ o.after) (hb : Region.binds .any e = true) : e.on ∈ binding o :=
  List.mem_map.2 ⟨e, List.mem_filter.2 ⟨by simpa using h, hb⟩, rfl⟩

omit [YI] in
theorem backOk_get : ∀ {os : List Oper} {j m : Nat} {o : Oper}, backOk os j = true → os[m]? = some o → ∀ i ∈ binding o, i < j + m
  | o0 :: os, j, 0, o, h, hm, i, hi => by
    simp only [backOk, Bool.and_eq_true, List.all_eq_true, decide_eq_true_eq] at h
    simp at hm
    subst hm
    exact h.1 i hi
  | o0 :: os, j, m + 1, o, h, hm, i, hi => by
    simp only [backOk, Bool.and_eq_true] at h
    have := backOk_get h.2 (by simpa using hm) i hi
    omega
  | [], _, _, _, _, hm, _, _ => by simp at hm

omit [YI] in
theorem ordOk_get {A : List (List Nat)} (h : ordOk un is A = true) {i j : Nat} {a b : Ins} (hij : i < j) (ha : is[i]? = some a) (hb : is[j]? = some b) (hn : i ∉ A.getD j []) : pairOk un i j a b = true := by
  unfold ordOk at h
  have hj : j < is.length := (List.getElem?_eq_some_iff.1 hb).1
  have h1 := List.all_eq_true.1 (List.all_eq_true.1 h j (List.mem_range.2 hj)) i (List.mem_range.2 hij)
  rw [ha, hb] at h1
  simp only [Bool.or_eq_true] at h1
  rcases h1 with h1 | h1
  · exact (hn (by simpa using h1)).elim
  · exact h1

omit [YI] in
theorem slotsApart_spec {a b : Ins} (h : slotsApart a b = true) : (∀ s, a.wslot = some s → s ∉ b.slots ∧ b.wslot ≠ some s) ∧ (∀ s, b.wslot = some s → s ∉ a.slots) := by
  unfold slotsApart at h
  simp only [Bool.and_eq_true] at h
  refine ⟨fun s hs => ?_, fun s hs => ?_⟩
  · have := h.1
    rw [hs] at this
    simpa using this
  · have := h.2
    rw [hs] at this
    simpa using this

/-- What two operations whose order is open have to do with each other. -/
theorem open_pair (hR : Reg P num N ops d S un is es t0 st) {A : List (List Nat)} (ho : ordOk un is A = true) {i j : Nat} (hij : i < j) (hn : i ∉ A.getD j []) {a b : Ins} {ea eb : Eff} (ha : is[i]? = some a) (hb : is[j]? = some b) (hea : es[i]? = some ea) (heb : es[j]? = some eb) :
    slotsApart a b = true ∧ Apart ea eb ∧ (ea.tk ≠ none → (∀ p, p ∉ eb.rd ∧ ¬ eb.fx.hits p) ∧ eb.tk = none) ∧ (eb.tk ≠ none → (∀ p, p ∉ ea.rd ∧ ¬ ea.fx.hits p) ∧ ea.tk = none) := by
  have hp := ordOk_get ho hij ha hb hn
  unfold pairOk at hp
  simp only [Bool.and_eq_true, Bool.or_eq_true, Bool.not_eq_true'] at hp
  obtain ⟨h1, h2⟩ := hp
  obtain ⟨i1, s1, q1, q2⟩ := hR.getE hea
  obtain ⟨i2, s2, q3, q4⟩ := hR.getE heb
  rw [ha] at q1
  cases q1
  rw [hb] at q3
  cases q3
  have na : a.touch = false → (∀ p, p ∉ ea.rd ∧ ¬ ea.fx.hits p) ∧ ea.tk = none := by
    intro ht
    have hx := q2.touch
    refine ⟨fun p => ⟨fun h => ?_, fun h => ?_⟩, ?_⟩
    · have := hx p (.inl h); rw [ht] at this; cases this
    · have := hx p (.inr (.inl h)); rw [ht] at this; cases this
    · cases hk : ea.tk with
      | none => rfl
      | some t => have := hx 0 (.inr (.inr (by rw [hk]; simp))); rw [ht] at this; cases this
  have nb : b.touch = false → (∀ p, p ∉ eb.rd ∧ ¬ eb.fx.hits p) ∧ eb.tk = none := by
    intro ht
    have hx := q4.touch
    refine ⟨fun p => ⟨fun h => ?_, fun h => ?_⟩, ?_⟩
    · have := hx p (.inl h); rw [ht] at this; cases this
    · have := hx p (.inr (.inl h)); rw [ht] at this; cases this
    · cases hk : eb.tk with
      | none => rfl
      | some t => have := hx 0 (.inr (.inr (by rw [hk]; simp))); rw [ht] at this; cases this
  rcases h2 with ((h2 | h2) | h2) | h2
  · obtain ⟨k1, k2⟩ := na h2
    exact ⟨h1, ⟨fun p hp => ((k1 p).2 hp).elim, fun p _ => (k1 p).1⟩, fun h => (h k2).elim, fun _ => ⟨k1, k2⟩⟩
  · obtain ⟨k1, k2⟩ := nb h2
    exact ⟨h1, ⟨fun p _ => k1 p, fun p hp => ((k1 p).2 hp).elim⟩, fun _ => ⟨k1, k2⟩, fun h => (h k2).elim⟩
  · obtain ⟨k1, k2⟩ := q2.rdo h2.1
    obtain ⟨k3, k4⟩ := q4.rdo h2.2
    exact ⟨h1, ⟨fun p hp => (k1 p hp).elim, fun p hp => (k3 p hp).elim⟩, fun h => (h k2).elim, fun h => (h k4).elim⟩
  · have hu : (i, j) ∈ un := by simpa using h2
    have hne : ¬ un = [] := fun e => by rw [e] at hu; simp at hu
    refine ⟨h1, hR.clash i j ea eb hij hea heb hu, fun h => ?_, fun h => ?_⟩
    · exact (hne (hR.tick ⟨ea, List.mem_of_getElem? hea, h⟩)).elim
    · exact (hne (hR.tick ⟨eb, List.mem_of_getElem? heb, h⟩)).elim

theorem any_run (hR : Reg P num N ops 0 S un is es t0 st) (hsize : ops.size = is.length) (hN : N ≤ a0.tmps.size) (ho : ordOk un is (ancs ops.toList []) = true) (hb : backOk ops.toList 0 = true)
    (hQ : ∀ a w, AtX num is es t0 st w0 F0 β0 a0 (fun _ => true) a w → Q .normal a w) : ∀ (fuel : Nat) (listed : Array Bool) (a : Act) (w : World), listed.size = ops.size → Closed ops.toList (fun k => listed.getD k false) →
    (List.range ops.size).countP (fun k => !listed.getD k false) ≤ fuel → AtX num is es t0 st w0 F0 β0 a0 (fun k => listed.getD k false) a w → wpAnyIn (FF r) 0 P .any ops Q fuel listed a w := by
  have hl := Facts.len is 0 st es hR.facts
  -- nothing is ready: all is done
  have done : ∀ (listed : Array Bool), listed.size = ops.size → Region.ready .any ops listed = [] → ∀ k, k < is.length → listed.getD k false = true := by
    intro listed hs hr k
    induction k using Nat.strongRecOn with
    | _ k ih =>
      intro hk
      cases hx : listed.getD k false with
      | true => rfl
      | false =>
        exfalso
        have hko : k < ops.size := by omega
        have : k ∈ Region.ready .any ops listed := by
          rw [mem_ready]
          refine ⟨?_, ops[k], Array.getElem?_eq_getElem hko, fun e he hbe => ?_⟩
          · have : k < listed.size := by omega
            simpa [Array.getD, this] using hx
          · have h1 := backOk_get hb (m := k) (o := ops[k]) (by simp [hko]) e.on (binding_mem he hbe)
            rw [Nat.zero_add] at h1
            exact ih e.on h1 (by omega)
        rw [hr] at this
        cases this
  intro fuel
  induction fuel with
  | zero =>
    intro listed a w hs hcl hcount hat
    have hall : ∀ k, k < is.length → listed.getD k false = true := by
      intro k hk
      have h0 : (List.range ops.size).countP (fun k => !listed.getD k false) = 0 := by omega
      rw [List.countP_eq_zero] at h0
      have := h0 k (List.mem_range.2 (by omega))
      simpa using this
    refine ⟨?_, hQ a w (hat.congr (fun k hk => hall k hk) hl)⟩
    cases hr : Region.ready .any ops listed with
    | nil => rfl
    | cons k ks =>
      exfalso
      have hk : k ∈ Region.ready .any ops listed := by rw [hr]; exact List.mem_cons_self ..
      obtain ⟨h1, o, ho', _⟩ := mem_ready.1 hk
      have hlt : k < ops.size := (Array.getElem?_eq_some_iff.1 ho').1
      have := hall k (by omega)
      have hks : k < listed.size := by omega
      simp [Array.getD, hks] at h1 this
      rw [h1] at this
      cases this
  | succ fuel ih =>
    intro listed a w hs hcl hcount hat
    refine ⟨fun hr => hQ a w (hat.congr (fun k hk => done listed hs hr k hk) hl), fun j hj => ?_⟩
    obtain ⟨hj1, o, hjo, hpre⟩ := mem_ready.1 hj
    have hjs : j < ops.size := (Array.getElem?_eq_some_iff.1 hjo).1
    have hjl : j < listed.size := by omega
    have hXj : listed.getD j false = false := by simpa [Array.getD, hjl] using hj1
    have hji : j < is.length := by omega
    obtain ⟨e, st', he, hfe⟩ := hR.get (List.getElem?_eq_getElem hji)
    -- who comes ahead of whom
    have hpreB : ∀ i ∈ binding o, listed.getD i false = true := by
      intro i hi
      obtain ⟨ed, h1, rfl⟩ := List.mem_map.1 hi
      obtain ⟨h2, h3⟩ := List.mem_filter.1 h1
      exact hpre ed (by simpa using h2) h3
    have hanc := ancs_spec (X := fun k => listed.getD k false) ops.toList hcl ops.toList [] [] rfl rfl (by simp)
    have hAj : ∀ i ∈ (ancs ops.toList []).getD j [], listed.getD i false = true := by
      intro i hi
      cases hl2 : (ancs ops.toList [])[j]? with
      | none => simp [List.getD, hl2] at hi
      | some l =>
        have : (ancs ops.toList []).getD j [] = l := by simp [List.getD, hl2]
        rw [this] at hi
        exact hanc j l hl2 o (by simpa using hjo) hpreB i hi
    have hAk : ∀ k, listed.getD k false = true → ∀ i ∈ (ancs ops.toList []).getD k [], listed.getD i false = true := by
      intro k hk i hi
      have hks : k < ops.size := by
        rcases Nat.lt_or_ge k listed.size with h | h
        · omega
        · have hno : ¬ k < listed.size := by omega
          simp [Array.getD, hno] at hk
      cases hl2 : (ancs ops.toList [])[k]? with
      | none => simp [List.getD, hl2] at hi
      | some l =>
        have : (ancs ops.toList []).getD k [] = l := by simp [List.getD, hl2]
        rw [this] at hi
        exact hanc k l hl2 ops[k] (by simp [hks]) (hcl k ops[k] (by simp [hks]) hk) i hi
    -- unordered with j
    have before : ∀ k e', k < j → es[k]? = some e' → listed.getD k false = false → ∃ b, is[k]? = some b ∧ (∃ s, InsFact S t0 k b s e') ∧ slotsApart b is[j] = true ∧ Apart e' e ∧ (e'.tk ≠ none → (∀ p, p ∉ e.rd ∧ ¬ e.fx.hits p) ∧ e.tk = none) := by
      intro k e' hk h1 h2
      obtain ⟨b, s, h3, h4⟩ := hR.getE h1
      obtain ⟨q1, q2, q3, _⟩ := open_pair hR ho hk (fun hm => by rw [hAj k hm] at h2; cases h2) h3 (List.getElem?_eq_getElem hji) h1 he
      exact ⟨b, h3, ⟨s, h4⟩, q1, q2, q3⟩
    have behind : ∀ k e', j < k → es[k]? = some e' → listed.getD k false = true → ∃ b, is[k]? = some b ∧ (∃ s, InsFact S t0 k b s e') ∧ slotsApart is[j] b = true ∧ Apart e e' ∧ (e'.tk ≠ none → (∀ p, p ∉ e.rd ∧ ¬ e.fx.hits p) ∧ e.tk = none) ∧ (e.tk ≠ none → e'.tk = none) := by
      intro k e' hk h1 h2
      obtain ⟨b, s, h3, h4⟩ := hR.getE h1
      obtain ⟨q1, q2, q3, q4⟩ := open_pair hR ho hk (fun hm => by have := hAk k h2 j hm; rw [hXj] at this; cases this) (List.getElem?_eq_getElem hji) h3 he h1
      exact ⟨b, h3, ⟨s, h4⟩, q1, q2, q4, fun h => (q3 h).2⟩
    have tri : ∀ k e' (W : Prop), es[k]? = some e' → W → (k < j → listed.getD k false = false → ¬ W) → (j < k → listed.getD k false = true → ¬ W) → decide (k < j) = listed.getD k false := by
      intro k e' W h1 hW h2 h3
      rcases Nat.lt_trichotomy k j with h | h | h
      · cases hx : listed.getD k false with
        | true => simp [h]
        | false => exact (h2 h hx hW).elim
      · subst h; rw [hXj]; simp
      · cases hx : listed.getD k false with
        | true => exact (h3 h hx hW).elim
        | false => simp; omega
    refine wpOpIn_mono (K := AtX num is es t0 st w0 F0 β0 a0 (ins1 (fun k => listed.getD k false) j)) (fun a' w' hat' => ?_) ?_
    · have hget : ∀ k, (listed.setIfInBounds j true).getD k false = ins1 (fun k => listed.getD k false) j k := by
        intro k
        unfold ins1
        by_cases hkj : k = j
        · subst hkj
          simp [Array.getD, hjl]
        · rw [if_neg hkj, getD_set_ne false (fun h => hkj h.symm)]
      refine ih _ a' w' (by simp [hs]) (fun k o' hk hX i hi => ?_) ?_ (hat'.congr (fun k _ => (hget k).symm) hl)
      · dsimp only at hX ⊢
        rw [hget] at hX ⊢
        unfold ins1 at hX ⊢
        split
        · rfl
        · split at hX
          · rename_i e2
            subst e2
            have e3 : ops.toList[k]? = some o := by simpa using hjo
            rw [e3] at hk
            cases hk
            exact hpreB i hi
          · exact hcl k o' hk hX i hi
      · have : (List.range ops.size).countP (fun k => !(listed.setIfInBounds j true).getD k false) < (List.range ops.size).countP (fun k => !listed.getD k false) := by
          refine countP_lt (i := j) (fun x _ hx => ?_) (List.mem_range.2 hjs) (by simp only [hXj]; rfl) ?_
          · rw [hget] at hx
            unfold ins1 at hx
            split at hx
            · simp at hx
            · exact hx
          · rw [hget]; simp [ins1]
        omega
    · suffices hz : wpOpIn (FF r) 0 P ops Q (0 + j) (AtX num is es t0 st w0 F0 β0 a0 (ins1 (fun k => listed.getD k false) j)) a w by rwa [Nat.zero_add] at hz
      refine reg_step hR hN (List.getElem?_eq_getElem hji) he hXj hat (fun n hn k e' h1 h2 => ?_) (fun p hp k e' h1 h2 => ?_) (fun ht k e' h1 h2 => ?_) (fun k e' h1 h2 h3 => ?_) fun _ _ h => h
      · refine tri k e' (e'.dst = some n) h1 h2 (fun g1 g2 => ?_) fun g1 g2 => ?_
        · obtain ⟨b, q1, ⟨s, q2⟩, q3, _⟩ := before k e' g1 h1 g2
          exact fun hd => ((slotsApart_spec q3).1 n (q2.dst n hd)).1 hn
        · obtain ⟨b, q1, ⟨s, q2⟩, q3, _⟩ := behind k e' g1 h1 g2
          exact fun hd => (slotsApart_spec q3).2 n (q2.dst n hd) hn
      · refine tri k e' (e'.fx.hits p) h1 h2 (fun g1 g2 => ?_) fun g1 g2 => ?_
        · obtain ⟨b, q1, _, _, q4, _⟩ := before k e' g1 h1 g2
          intro hh
          rcases hp with hp | hp
          · exact (q4.1 p hh).1 hp
          · exact (q4.1 p hh).2 hp
        · obtain ⟨b, q1, _, _, q4, _⟩ := behind k e' g1 h1 g2
          intro hh
          rcases hp with hp | hp
          · exact q4.2 p hh hp
          · exact (q4.1 p hp).2 hh
      · refine tri k e' (e'.tk ≠ none) h1 h2 (fun g1 g2 => ?_) fun g1 g2 => ?_
        · obtain ⟨b, q1, _, _, _, q5⟩ := before k e' g1 h1 g2
          exact fun hh => ht (q5 hh).2
        · obtain ⟨b, q1, _, _, _, _, q6⟩ := behind k e' g1 h1 g2
          exact fun hh => hh (q6 ht)
      · obtain ⟨b, q1, ⟨s, q2⟩, q3, q4, q5, q6⟩ := behind k e' h1 h2 h3
        refine ⟨fun n hd hd' => ?_, fun p hh => (q4.1 p hh).2, q6⟩
        exact ((slotsApart_spec q3).1 n (hfe.dst n hd)).2 (q2.dst n hd')
end
end Go.Fw
