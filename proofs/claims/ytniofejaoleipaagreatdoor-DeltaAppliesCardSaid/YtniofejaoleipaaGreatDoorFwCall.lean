import Derived.Test.YtniofejaoleipaaGreatDoorFwRes
import Derived.OrdersIn
import Derived.RangeFuncRecord
/-
  Calls.
-/
namespace Go.Fw
variable [YI]

/-- The fence that lets all in; r: the round. -/
def FF (r : Option Nat) : Fence := { Fence.wide with round := r }

def Enters (P : Program) (g : FuncId) : Prop := ∀ args w, (callFunc g args).run P w = .ok (.enter g args) w

/-- A piece of a run. -/
structure Step (num : Nat → FuncId) (w : World) (F : Nat → Prop) (β : Beta) (ob : Ob) (w' : World) (F' : Nat → Prop) (β' : Beta) (ob' : Ob) (new : Nat → Prop) : Prop where
  later : Later w F β w' F' β'
  chg : Chg w F (liveB β ob) w' F'
  inv : Inv num w' F' β' ob'
  live : ∀ b, liveB β' ob' b → liveB β ob b ∨ w.heap.size ≤ b
  gen : ∀ p g x, β' p g = some x → β p g = some x ∨ new g

/-- What a call comes to. -/
def CallPost (num : Nat → FuncId) (w : World) (F : Nat → Prop) (β : Beta) (ob : Ob) (tk : Nat) (R : AV → Ob → Nat → Prop) : Ending → World → Prop
  | .returned v, w' => ∃ a ob' tk' F' β', R a ob' tk' ∧ tk ≤ tk' ∧ RX num w' F' β' a v ∧ Step num w F β ob w' F' β' ob' fun g => g = 0 ∨ (tk ≤ g ∧ g < tk')
  | _, _ => False

def CallOk (P : Program) (num : Nat → FuncId) (f : Nat) (args : List AV) (ob : Ob) (tk : Nat) (R : AV → Ob → Nat → Prop) : Prop :=
  Enters P (num f) ∧ ∀ (w : World) (F : Nat → Prop) (β : Beta) (vs : List Value), 1 ≤ tk → Inv num w F β ob → (∀ p g x, β p g = some x → g < tk) → RCv num w F β args vs →
    CallsIn (FF none) 0 P (num f) vs.toArray w (CallPost num w F β ob tk R)

/-- The same for a piece of a run that turns block l as well. -/
structure StepL (num : Nat → FuncId) (l : Nat) (w : World) (F : Nat → Prop) (β : Beta) (ob : Ob) (w' : World) (F' : Nat → Prop) (β' : Beta) (ob' : Ob) (new : Nat → Prop) : Prop where
  later : Later w F β w' F' β'
  chg : Chg w F (fun b => liveB β ob b ∨ b = l) w' F'
  inv : Inv num w' F' β' ob'
  live : ∀ b, liveB β' ob' b → liveB β ob b ∨ w.heap.size ≤ b
  gen : ∀ p g x, β' p g = some x → β p g = some x ∨ new g
  out : ¬ F' l ∧ ¬ liveB β' ob' l

/-- A loop's record behind a round. -/
def recOf (r : Loop) (c : Int) : Loop := { r with state := if c = 0 then .ready else .done, pending := (sOf c).map jumpOf }

/-- What a round comes to. -/
def RoundPost (num : Nat → FuncId) (w : World) (F : Nat → Prop) (β : Beta) (ob : Ob) (tk : Nat) (l : Nat) (r : Loop) (R : AV → Ob → Nat → Prop) : Ending → World → Prop
  | .returned v, w' => ∃ c ob' tk' F' β', R (.v (.int .i64 c)) ob' tk' ∧ 0 ≤ c ∧ v = .bool (c == 0) ∧ tk ≤ tk' ∧ StepL num l w F β ob w' F' β' ob' (fun g => g = 0 ∨ (tk ≤ g ∧ g < tk')) ∧ w'.heap[l]? = some (.loop (recOf r c))
  | _, _ => False

def RoundOk (P : Program) (num : Nat → FuncId) (i : YInfo) (args : List AV) (ob : Ob) (tk : Nat) (R : AV → Ob → Nat → Prop) : Prop :=
  args.length = i.ps.length + i.slots.length ∧
  ∀ (w : World) (F : Nat → Prop) (β : Beta) (vs : List Value) (l : Nat) (r : Loop) (tmps : Array Value), 1 ≤ tk → Inv num w F β ob → (∀ p g x, β p g = some x → g < tk) → RCv num w F β args vs →
    w.heap[l]? = some (.loop r) → r.state = .ready → r.pending = none → ¬ F l → ¬ liveB β ob l → i.n ≤ tmps.size → (∀ (k s : Nat), (i.ps ++ i.slots)[k]? = some s → tmps[s]? = vs[k]?) →
    RoundIn (FF none) 0 P l r.fn tmps i.assign i.body w (RoundPost num w F β ob tk l r R)

/-- What is to be shown of a call. -/
def CallJob (P : Program) (num : Nat → FuncId) (f : Nat) (args : List AV) (ob : Ob) (tk : Nat) (R : AV → Ob → Nat → Prop) : Prop :=
  (f < 1000000 → CallOk P num f args ob tk R) ∧ ∀ i, YI.yi f = some i → RoundOk P num i args ob tk R

section
variable {P : Program} {num : Nat → FuncId} {w w' w'' : World} {F F' F'' : Nat → Prop} {β β' β'' : Beta} {ob ob' ob'' : Ob}

theorem Step.refl (hi : Inv num w F β ob) (new : Nat → Prop) : Step num w F β ob w F β ob new := ⟨Later.refl _ _ _, Chg.refl _ _ _, hi, fun _ h => .inl h, fun _ _ _ h => .inl h⟩
theorem Step.trans {n1 n2 n : Nat → Prop} (h1 : Step num w F β ob w' F' β' ob' n1) (h2 : Step num w' F' β' ob' w'' F'' β'' ob'' n2) (hn1 : ∀ g, n1 g → n g) (hn2 : ∀ g, n2 g → n g) : Step num w F β ob w'' F'' β'' ob'' n :=
  ⟨h1.later.trans h2.later, h1.chg.trans h2.chg h1.live, h2.inv, fun b hb => (h2.live b hb).elim (h1.live b) fun h => .inr (Nat.le_trans h1.chg.size h),
    fun p g x hx => (h2.gen p g x hx).elim (fun h => (h1.gen p g x h).imp id (hn1 g)) fun h => .inr (hn2 g h)⟩
theorem Step.mono {n1 n2 : Nat → Prop} (h : Step num w F β ob w' F' β' ob' n1) (hn : ∀ g, n1 g → n2 g) : Step num w F β ob w' F' β' ob' n2 :=
  ⟨h.later, h.chg, h.inv, h.live, fun p g x hx => (h.gen p g x hx).imp id (hn g)⟩
theorem Step.of_heap {n : Nat → Prop} (h : w'.heap = w.heap) (h1 : w'.os = w.os) (h2 : w'.tape = w.tape) (h3 : w'.output = w.output) (hi : Inv num w F β ob) : Step num w F β ob w' F β ob n :=
  ⟨Later.of_heap h, Chg.of_heap h h1 h2 h3, hi.of_heap h, fun _ h => .inl h, fun _ _ _ h => .inl h⟩

theorem Inv.congr (hi : Inv num w F β ob) (h : ∀ p, lk ob' p = lk ob p) : Inv num w F β ob' := hi.fewer fun p x hp => by rw [← h]; exact hp
theorem Step.congr {n : Nat → Prop} {ob1 ob1' : Ob} (h : Step num w F β ob w' F' β' ob' n) (h1 : ∀ p, lk ob1 p = lk ob p) (h2 : ∀ p, lk ob1' p = lk ob' p) : Step num w F β ob1 w' F' β' ob1' n := by
  have e1 : ∀ b, liveB β ob b → liveB β ob1 b := fun b ⟨p, g, o, k1, k2⟩ => ⟨p, g, o, by rw [h1]; exact k1, k2⟩
  have e2 : ∀ b, liveB β' ob1' b → liveB β' ob' b := fun b ⟨p, g, o, k1, k2⟩ => ⟨p, g, o, by rw [← h2]; exact k1, k2⟩
  refine ⟨h.later, ⟨h.chg.os, h.chg.tape, h.chg.output, h.chg.size, fun b hb hn => h.chg.block b hb fun hl => hn (e1 b hl), fun b hb => (h.chg.made b hb).imp id (Or.imp (e1 b) id)⟩, h.inv.congr h2, fun b hb => (h.live b (e2 b hb)).imp (e1 b) id, h.gen⟩

omit [YI] in
theorem argsB_congr : ∀ (l : List AV) (q : Nat) (o1 o2 : Ob), (∀ m, q ≤ m → lk o1 m = lk o2 m) → argsB o1 q l = argsB o2 q l
  | [], _, _, _, _ => rfl
  | a :: l, q, o1, o2, h => by
    unfold argsB
    rw [h q (Nat.le_refl _), argsB_congr l (q + 1) o1 o2 fun m hm => h m (by omega)]
omit [YI] in
theorem argsB_pure : ∀ (l : List AV) (q : Nat) (o : Ob), argsB o q l = true → (∀ m, q ≤ m → lk o m = none) → AV.pureBs l = true
  | [], _, _, _, _ => rfl
  | a :: l, q, o, h, hn => by
    unfold argsB at h
    rw [hn q (Nat.le_refl _)] at h
    simp only [Bool.and_eq_true, Bool.or_eq_true] at h
    simp only [AV.pureBs, Bool.and_eq_true]
    refine ⟨?_, argsB_pure l (q + 1) o h.2 fun m hm => hn m (by omega)⟩
    rcases h.1 with h1 | h1
    · exact h1
    · split at h1 <;> simp at h1

omit [YI] in
theorem memN_iff {p : Nat} : ∀ {l : List Nat}, memN p l = true ↔ p ∈ l
  | [] => by simp [memN]
  | a :: l => by
    unfold memN
    split
    · rename_i h; simp [h]
    · rename_i h; rw [memN_iff (l := l)]; simp [h]

omit [YI] in
theorem argsV_len : ∀ (as : List (AV × AMode)) (q : Nat) (as' : List AV) (ob' : Ob) (ps : List Nat), argsV ob q as = some (as', ob', ps) →
    as'.length = as.length ∧ (∀ m, (lk ob' m).isSome = true → q ≤ m ∧ m < q + as.length) ∧ ∀ p ∈ ps, (lk ob p).isSome = true
  | [], q, as', ob', ps, h => by unfold argsV at h; cases h; exact ⟨rfl, by simp [lk], by simp⟩
  | (a, .pass) :: as, q, as', ob', ps, h => by
    unfold argsV at h
    split at h
    · rename_i as1 ob1 ps1 hr
      cases h
      obtain ⟨h1, h2, h3⟩ := argsV_len as (q + 1) as1 ob' ps hr
      exact ⟨by simp [h1], fun m hm => by have := h2 m hm; simp; omega, h3⟩
    · cases h
  | (a, .take) :: as, q, as', ob', ps, h => by
    simp only [argsV] at h
    split at h
    · rename_i p g k1 n
      split at h
      · rename_i g' k xs hl
        split at h
        · split at h
          · rename_i as1 ob1 ps1 hr
            split at h
            · cases h
            cases h
            obtain ⟨h1, h2, h3⟩ := argsV_len as (q + 1) as1 ob1 ps1 hr
            refine ⟨by simp [h1], fun m hm => ?_, fun p' hp' => ?_⟩
            · unfold lk at hm
              split at hm
              · rename_i e; subst e; simp
              · have := h2 m hm; simp; omega
            · rcases List.mem_cons.1 hp' with rfl | hp'
              · rw [hl]; rfl
              · exact h3 p' hp'
          · cases h
        · cases h
      · cases h
    · cases h

theorem ORep_pure {x : Option Nat} {k : Nat} {xs : List AV} (hp : AV.pureBs xs = true) (h : ORep num w F β x (.arr k xs)) : ORep num w F β' x (.arr k xs) := by
  unfold ORep at h ⊢
  cases x with
  | none => exact h
  | some b => obtain ⟨c, e, cs, rest, h1, h2, h3⟩ := h; exact ⟨c, e, cs, rest, h1, RCk_pure k xs cs hp h2, h3⟩

omit [YI] in
theorem RCv_len : ∀ (as : List AV) (vs : List Value), RCv num w F β as vs → vs.length = as.length
  | [], vs, h => by unfold RCv at h; subst h; rfl
  | a :: as, vs, h => by
    obtain ⟨v, r, rfl, _, h3⟩ := RCv_cons.1 h
    simp [RCv_len as r h3]

omit [YI] in
theorem RCv_append : ∀ {as bs : List AV} {vs us : List Value}, RCv num w F β as vs → RCv num w F β bs us → RCv num w F β (as ++ bs) (vs ++ us)
  | [], bs, vs, us, h, h' => by unfold RCv at h; subst h; exact h'
  | a :: as, bs, vs, us, h, h' => by
    obtain ⟨v, r, rfl, h2, h3⟩ := RCv_cons.1 h
    exact RCv_cons.2 ⟨v, r ++ us, rfl, h2, RCv_append h3 h'⟩

/-- The arguments, as the callee has them. -/
theorem argsV_ok (hi : Inv num w F β ob) {caps : List AV} {us : List Value} (hu : RCv num w F β caps us) : ∀ (as : List (AV × AMode)) (vs : List Value) (q : Nat) (as' : List AV) (ob' : Ob) (ps : List Nat),
    argsV ob q as = some (as', ob', ps) → RCv num w F β (as.map (·.1)) vs → argsB ob' q (as' ++ caps) = true →
    ∃ βc, Inv num w F βc ob' ∧ RCv num w F βc (as' ++ caps) (vs ++ us) ∧ (∀ p g x, βc p g = some x → g = 0 ∧ q ≤ p) ∧ (∀ b, liveB βc ob' b → ∃ p g o, p ∈ ps ∧ lk ob p = some (g, o) ∧ β p g = some (some b))
  | [], vs, q, as', ob', ps, h, hv, hb => by
    unfold argsV at h
    cases h
    simp only [List.map_nil] at hv
    unfold RCv at hv
    subst hv
    have hp := argsB_pure caps q [] hb fun _ _ => rfl
    exact ⟨fun _ _ => none, ⟨hi.fin, by simp [lk], by simp [lk], by simp [lk]⟩, RCv_pure caps us hp hu, by simp, fun b ⟨p, g, o, h1, _⟩ => by simp [lk] at h1⟩
  | (a, .pass) :: as, vs, q, as', ob', ps, h, hv, hb => by
    unfold argsV at h
    split at h
    · rename_i as1 ob1 ps1 hr
      cases h
      obtain ⟨v, r, rfl, h2, h3⟩ := RCv_cons.1 hv
      obtain ⟨l1, l2, l3⟩ := argsV_len as (q + 1) as1 ob' ps hr
      rw [List.cons_append] at hb
      unfold argsB at hb
      simp only [Bool.and_eq_true, Bool.or_eq_true] at hb
      have hn : lk ob' q = none := by
        cases hq : lk ob' q with
        | none => rfl
        | some x => have := l2 q (by rw [hq]; rfl); omega
      have hp : a.pureB = true := by
        rcases hb.1 with h1 | h1
        · exact h1
        · rw [hn] at h1; split at h1 <;> simp at h1
      obtain ⟨βc, k1, k2, k3, k4⟩ := argsV_ok hi hu as r (q + 1) as1 ob' ps hr h3 hb.2
      exact ⟨βc, k1, RCv_cons.2 ⟨v, _, rfl, RX_pure hp h2, k2⟩, fun p g x hx => ⟨(k3 p g x hx).1, by have := (k3 p g x hx).2; omega⟩, k4⟩
    · cases h
  | (a, .take) :: as, vs, q, as', ob', ps, h, hv, hb => by
    simp only [argsV] at h
    split at h
    · rename_i p g k1 n
      split at h
      · rename_i g' k xs hl
        split at h
        · rename_i hc
          obtain ⟨rfl, rfl, hlen, hpure⟩ := hc
          split at h
          · rename_i as1 ob1 ps1 hr
            split at h
            · cases h
            rename_i hmem
            cases h
            obtain ⟨v, r, rfl, h2, h3⟩ := RCv_cons.1 hv
            obtain ⟨l1, l2, l3⟩ := argsV_len as (q + 1) as1 ob1 ps1 hr
            rw [List.cons_append] at hb
            unfold argsB at hb
            simp only [Bool.and_eq_true, Bool.or_eq_true] at hb
            have hb2 : argsB ob1 (q + 1) (as1 ++ caps) = true := by
              rw [← hb.2]
              refine argsB_congr _ _ _ _ fun m hm => ?_
              conv => rhs; unfold lk
              rw [if_neg (by omega)]
            obtain ⟨βc, k1', k2, k3, k4⟩ := argsV_ok hi hu as r (q + 1) as1 ob1 ps1 hr h3 hb2
            obtain ⟨x, hx, ho⟩ := hi.rep p g _ hl
            have hnone : ∀ p' x', βc p' 0 = some x' → p' ≠ q := fun p' x' hh e => by have := (k3 p' 0 x' hh).2; omega
            have hext : Later w F βc w F (βc.set q 0 x) := ⟨fun _ h => h, fun _ _ => rfl, fun _ _ h => h, fun p' g' y hy => by
              unfold Beta.set
              split
              · rename_i e; rw [e.2] at hy; exact (hnone _ _ hy e.1).elim
              · exact hy⟩
            have hnew : Inv num w F (βc.set q 0 x) (up ob1 q (0, .arr k1 xs)) := by
              refine k1'.put hext (Nat.le_refl _) (Beta.set_same _ _ _ _) (ORep_pure hpure ho) (fun b hb0 => ?_) fun _ _ _ _ _ _ _ => rfl
              subst hb0
              have hown := hi.own p g _ b hl hx
              refine ⟨hown.1, hown.2, fun q' g' o' _ hq' hqb => ?_⟩
              obtain ⟨p', g'', o'', m1, m2, m3⟩ := k4 b ⟨q', g', o', hq', hqb⟩
              have := hi.inj _ _ _ _ _ _ _ m2 hl m3 hx
              subst this
              exact hmem (memN_iff.2 m1)
            have hlk : ∀ m, lk ((q, 0, AObj.arr k1 xs) :: ob1) m = lk (up ob1 q (0, .arr k1 xs)) m := by
              intro m
              rw [lk_up]
              conv => lhs; unfold lk
            refine ⟨βc.set q 0 x, hnew.congr hlk, RCv_cons.2 ⟨v, _, rfl, RX.of_single ?_ rfl, RCv.later hext _ _ k2⟩, fun p' g' y hy => ?_, fun b hb0 => ?_⟩
            · have := h2.single (by simp) (by simp) rfl
              unfold RC at this ⊢
              rcases this with h | ⟨b, cap, m, m1, m2⟩
              · exact .inl h
              · rw [hx] at m1
                cases m1
                exact .inr ⟨b, cap, m, Beta.set_same _ _ _ _, m2⟩
            · unfold Beta.set at hy
              split at hy
              · rename_i e; exact ⟨e.2, by omega⟩
              · exact ⟨(k3 p' g' y hy).1, by have := (k3 p' g' y hy).2; omega⟩
            · obtain ⟨q', g', o', m1, m2⟩ := hb0
              rw [hlk, lk_up] at m1
              unfold Beta.set at m2
              split at m1
              · rename_i e
                cases m1
                rw [if_pos ⟨e, rfl⟩] at m2
                cases m2
                exact ⟨p, g, _, List.mem_cons_self .., hl, hx⟩
              · rename_i e
                rw [if_neg (fun h => e h.1)] at m2
                obtain ⟨p', g'', o'', n1, n2, n3⟩ := k4 b ⟨q', g', o', m1, m2⟩
                exact ⟨p', g'', o'', List.mem_cons_of_mem _ n1, n2, n3⟩
          · cases h
        · cases h
      · cases h
    · cases h

/-- Behind a call with objects of its own: what the caller holds. -/
theorem after_call (hi : Inv num w F β ob) {βc : Beta} {obc : Ob} {ps : List Nat} (hlive : ∀ b, liveB βc obc b → ∃ p g o, p ∈ ps ∧ lk ob p = some (g, o) ∧ β p g = some (some b)) {βc' : Beta} {obc' : Ob} {n : Nat → Prop}
    (hs : Step num w F βc obc w' F' βc' obc' n) {Z : Nat → Prop} (hZ : ∀ b, Z b → liveB βc' obc' b) {m : Nat → Prop} : Step num w F β ob w' (fun b => F' b ∨ Z b) β (rmAll ob ps) m := by
  have hlat : Later w F β w' (fun b => F' b ∨ Z b) β := ⟨fun b h => .inl (hs.later.fr b h), hs.later.row, hs.later.size, fun _ _ _ h => h⟩
  have taken : ∀ b, liveB βc obc b → liveB β ob b := fun b h => let ⟨p, g, o, _, h1, h2⟩ := hlive b h; ⟨p, g, o, h1, h2⟩
  have rest : ∀ b, liveB β (rmAll ob ps) b → liveB β ob b ∧ ¬ liveB βc obc b := by
    rintro b ⟨q, g, o, h1, h2⟩
    rw [lk_rmAll] at h1
    split at h1
    · cases h1
    · rename_i hq
      refine ⟨⟨q, g, o, h1, h2⟩, fun h => ?_⟩
      obtain ⟨p, g', o', m1, m2, m3⟩ := hlive b h
      exact hq (hi.inj _ _ _ _ _ _ _ h1 m2 h2 m3 ▸ m1)
  have hless : Inv num w F β (rmAll ob ps) := hi.fewer fun q x hq => by
    rw [lk_rmAll] at hq
    split at hq
    · cases hq
    · exact hq
  have hfin : ∀ b, (F' b ∨ Z b) → b < w'.heap.size := by
    rintro b (h | h)
    · exact hs.inv.fin b h
    · obtain ⟨p, g, o, h1, h2⟩ := hZ b h
      exact (hs.inv.own _ _ _ _ h1 h2).2
  refine ⟨hlat, ⟨hs.chg.os, hs.chg.tape, hs.chg.output, hs.chg.size, fun b hb hn => hs.chg.block b hb fun h => hn (taken b h), fun b hb => ?_⟩, ?_, fun b hb => .inl (rest b hb).1, fun _ _ _ h => .inl h⟩
  · rcases hb with hb | hb
    · exact (hs.chg.made b hb).imp id (Or.imp (taken b) id)
    · exact .inr ((hs.live b (hZ b hb)).imp (taken b) id)
  · refine hless.later hlat hfin fun b hb => ?_
    obtain ⟨h1, h2⟩ := rest b hb
    obtain ⟨q, g, o, h3, h4⟩ := h1
    have hown := hi.own _ _ _ _ h3 h4
    refine ⟨hs.chg.block b hown.2 h2, fun h => ?_, Nat.lt_of_lt_of_le hown.2 hs.chg.size⟩
    rcases h with h | h
    · rcases hs.chg.made b h with h | h | h
      · exact hown.1 h
      · exact h2 h
      · omega
    · rcases hs.live b (hZ b h) with h | h
      · exact h2 h
      · omega

theorem call_frz (hi : Inv num w F β ob) {f : Nat} {as : List (AV × AMode)} {caps : List AV} {p : List AV × Ob × List Nat} {ks : List Nat} {b : AV} {vs us : List Value} (ha : argsV ob 1 as = some p) (hb : argsB p.2.1 1 (p.1 ++ caps) = true)
    (hv : RCv num w F β (as.map (·.1)) vs) (hu : RCv num w F β caps us) (hc : CallOk P num f (p.1 ++ caps) p.2.1 1 fun a ob'' _ => frozen ob'' ks a = some b) :
    CallsIn (FF none) 0 P (num f) (vs ++ us).toArray w fun e w' => match e with
      | .returned v => ∃ F' , Step num w F β ob w' F' β (rmAll ob p.2.2) (fun _ => False) ∧ RX num w' F' β b v
      | _ => False := by
  obtain ⟨βc, h1, h2, h3, h4⟩ := argsV_ok hi hu as vs 1 p.1 p.2.1 p.2.2 ha hv hb
  refine CallsIn.mono (hc.2 w F βc (vs ++ us) (Nat.le_refl _) h1 (fun q g x hx => by rw [(h3 q g x hx).1]; omega) h2) fun e w' he => ?_
  cases e with
  | returned v =>
    obtain ⟨a, ob', tk', F', β', k1, k2, k3, k4⟩ := he
    exact ⟨frzF F' β' ob', after_call hi h4 k4 (fun b h => h), frozen_run k4.inv k1 k3⟩
  | panicked c => exact he.elim
  | outgrown => exact he.elim

theorem call_own (hi : Inv num w F β ob) {f : Nat} {as : List (AV × AMode)} {caps : List AV} {p : List AV × Ob × List Nat} {k : Nat} {xs : List AV} {vs us : List Value} (ha : argsV ob 1 as = some p) (hb : argsB p.2.1 1 (p.1 ++ caps) = true)
    (hv : RCv num w F β (as.map (·.1)) vs) (hu : RCv num w F β caps us) {tg key : Nat} (hg : ∀ p, β p tg = none) (hkey : key ∉ p.2.2 → lk ob key = none)
    (hc : CallOk P num f (p.1 ++ caps) p.2.1 1 fun a ob'' _ => fresh ob'' k a = some xs) :
    CallsIn (FF none) 0 P (num f) (vs ++ us).toArray w fun e w' => match e with
      | .returned v => ∃ F' β', Step num w F β ob w' F' β' (up (rmAll ob p.2.2) key (tg, .arr k xs)) (fun g => g = tg) ∧ RX num w' F' β' (.own key tg k 0 xs.length) v
      | _ => False := by
  obtain ⟨βc, h1, h2, h3, h4⟩ := argsV_ok hi hu as vs 1 p.1 p.2.1 p.2.2 ha hv hb
  refine CallsIn.mono (hc.2 w F βc (vs ++ us) (Nat.le_refl _) h1 (fun q g x hx => by rw [(h3 q g x hx).1]; omega) h2) fun e w' he => ?_
  cases e with
  | panicked c => exact he.elim
  | outgrown => exact he.elim
  | returned v =>
    obtain ⟨a, ob', tk', F', β', k1, k2, k3, k4⟩ := he
    rcases fresh_run k4.inv k1 k3 with ⟨rfl, y, hy, rfl⟩ | ⟨q, g, o, blk, cap, m, m1, m2, rfl, m4, m5, m6, m7, m8⟩
    · have hs := after_call (m := fun g => g = tg) hi h4 k4 (Z := fun _ => False) fun _ h => h.elim
      refine ⟨_, β.set key tg none, hs.trans (n2 := fun g => g = tg) ⟨⟨fun _ h => h, fun _ _ => rfl, fun _ _ h => h, Beta.set_ext hg key none⟩, Chg.refl _ _ _, inv_none hs.inv hg, ?_, ?_⟩ (fun _ h => h) (fun _ h => h), RX.of_single ?_ rfl⟩
      · exact fun b hb => ((Tail.put (w := w') (tg := tg) (p := key) (x := none) (o := .arr k []) (ob := rmAll ob p.2.2) (β := β) (fun b hb => by cases hb)).live b hb)
      · exact fun p' g' x hx => Beta.set_dom β key tg none p' g' x hx
      · unfold RC
        exact .inl ⟨y, hy, rfl, rfl⟩
    · have hs := after_call (m := fun g => g = tg) hi h4 k4 (Z := liveB β' (rm ob' q)) fun b ⟨q', g', o', n1, n2⟩ => by
        rw [lk_rm] at n1
        split at n1
        · cases n1
        · exact ⟨q', g', o', n1, n2⟩
      have hblk := k4.inv.own _ _ _ _ m1 m2
      have hnlive : ¬ liveB β' (rm ob' q) blk := by
        rintro ⟨q', g', o', n1, n2⟩
        rw [lk_rm] at n1
        split at n1
        · cases n1
        · rename_i hne
          exact hne (k4.inv.inj _ _ _ _ _ _ _ n1 m1 n2 m2)
      have hnF : ¬ frzF F' β' (rm ob' q) blk := fun h => h.elim hblk.1 hnlive
      have hrest : ∀ q' g' o', lk (rmAll ob p.2.2) q' = some (g', o') → β q' g' ≠ some (some blk) := by
        intro q' g' o' n1 n2
        rw [lk_rmAll] at n1
        split at n1
        · cases n1
        · rename_i hq'
          have hown := hi.own _ _ _ _ n1 n2
          rcases k4.live blk ⟨q, g, o, m1, m2⟩ with h | h
          · obtain ⟨p', g'', o'', e1, e2, e3⟩ := h4 blk h
            exact hq' (hi.inj _ _ _ _ _ _ _ n1 e2 n2 e3 ▸ e1)
          · omega
      have hext : Later w' (fun b => F' b ∨ liveB β' (rm ob' q) b) β w' (fun b => F' b ∨ liveB β' (rm ob' q) b) (β.set key tg (some blk)) := ⟨fun _ h => h, fun _ _ => rfl, fun _ _ h => h, Beta.set_ext hg key _⟩
      refine ⟨_, β.set key tg (some blk), ⟨hs.later.trans hext, hs.chg, ?_, fun b hb => ?_, fun p' g' x hx => Beta.set_dom β key tg _ p' g' x hx⟩, RX.of_single ?_ rfl⟩
      · exact hs.inv.put hext (Nat.le_refl _) (Beta.set_same _ _ _ _) (m8 _) (fun b hb => by
          cases hb
          exact ⟨hnF, hblk.2, fun q' g' o' _ n1 n2 => hrest q' g' o' n1 n2⟩) fun _ _ _ _ _ _ _ => rfl
      · obtain ⟨q', g', o', n1, n2⟩ := hb
        rw [lk_up] at n1
        unfold Beta.set at n2
        split at n1
        · rename_i e
          cases n1
          rw [if_pos ⟨e, rfl⟩] at n2
          cases n2
          rcases k4.live blk ⟨q, g, o, m1, m2⟩ with h | h
          · obtain ⟨p', g'', o'', e1, e2, e3⟩ := h4 blk h
            exact .inl ⟨p', g'', o'', e2, e3⟩
          · exact .inr h
        · rename_i e
          rw [if_neg (fun h => e h.1)] at n2
          exact hs.live b ⟨q', g', o', n1, n2⟩
      · unfold RC
        exact .inr ⟨blk, cap, m, Beta.set_same _ _ _ _, by simp, m4, m5, m6, by simpa using m7⟩
end
end Go.Fw
