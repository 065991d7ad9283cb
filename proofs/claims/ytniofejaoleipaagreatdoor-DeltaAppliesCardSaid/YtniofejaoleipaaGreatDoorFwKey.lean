import Derived.Test.YtniofejaoleipaaGreatDoorFwRun
import Derived.Lib.Bytealg
import Derived.Lib.ItoaNum
/-
  Library functions and coalesce.key as the abstract machine has them: what they yield.
-/
namespace Go.Fw

/-- The decimal digits of a number below 100. -/
def dec2 (n : Nat) : List UInt8 := if n < 10 then [UInt8.ofNat (48 + n)] else [UInt8.ofNat (48 + n / 10), UInt8.ofNat (48 + n % 10)]
theorem dec2_eq {n : Nat} (h : n < 100) : dec2 n = Lib.decDigits n := by
  unfold dec2 Lib.decDigits
  split
  · simp
  · unfold Lib.decDigits
    rw [dif_pos (by omega)]
    simp
abbrev Val3 := Nat × Nat × ByteArray
def numK (v : Val3) : Nat → Nat
  | 0 => v.1
  | 1 => v.2.1
  | _ => v.2.2.size
def partK (v : Val3) : Nat → List UInt8
  | 0 => []
  | m + 1 => partK v m ++ (dec2 (numK v m) ++ [32])
def valK (v : Val3) : List UInt8 := partK v 3 ++ v.2.2.data.toList
def keyK (l : List Val3) : List UInt8 := l.flatMap valK
def smallV (v : Val3) : Bool := decide (v.1 < 100) && (decide (v.2.1 < 100) && decide (v.2.2.size < 100))
def valA (v : Val3) : AV := .agg [1, 1, 1] [.i v.1, .i v.2.1, .str v.2.2]

/-- coalesce.key, of rows of small numbers that are not empty. -/
def keyE : Ext := fun args ob tk R => ∃ l : List Val3, args = [.sl 3 (l.map valA)] ∧ l ≠ [] ∧ l.length ≤ 1000000 ∧ (∀ v ∈ l, smallV v = true) ∧ R (.str ⟨(keyK l).toArray⟩) ob tk

def natOf : Int → Option Nat
  | .ofNat n => some n
  | _ => none
def valOf : AV → Option Val3
  | .agg [1, 1, 1] [.v (.int .i64 a), .v (.int .i64 b), .v (.string s)] => match natOf a, natOf b with
    | some a, some b => match smallV (a, b, s) with
      | true => some (a, b, s)
      | false => none
    | _, _ => none
  | _ => none
def valsOf : List AV → Option (List Val3)
  | [] => some []
  | a :: r => match valOf a, valsOf r with
    | some v, some l => some (v :: l)
    | _, _ => none
def keyX : Orc := fun _ args ob tk =>
  match args with
  | [.sl 3 xs] => match valsOf xs with
    | some (v :: l) => if l.length < 100 then some (.str ⟨(keyK (v :: l)).toArray⟩, ob, tk) else none
    | _ => none
  | _ => none

theorem natOf_ok {a : Int} {n : Nat} (h : natOf a = some n) : a = n := by
  cases a <;> cases h
  rfl
theorem valOf_ok {a : AV} {v : Val3} (h : valOf a = some v) : a = valA v ∧ smallV v = true := by
  unfold valOf at h
  split at h
  · split at h
    · rename_i h1 h2
      split at h
      · rename_i hs
        cases h
        rw [natOf_ok h1, natOf_ok h2]
        exact ⟨rfl, hs⟩
      · cases h
    · cases h
  · cases h
theorem valsOf_ok : ∀ {xs : List AV} {l : List Val3}, valsOf xs = some l → xs = l.map valA ∧ ∀ v ∈ l, smallV v = true
  | [], l, h => by cases h; exact ⟨rfl, by simp⟩
  | a :: r, l, h => by
    unfold valsOf at h
    split at h
    · rename_i v l' h1 h2
      cases h
      obtain ⟨e1, s1⟩ := valOf_ok h1
      obtain ⟨e2, s2⟩ := valsOf_ok h2
      refine ⟨by rw [e1, e2]; rfl, fun u hu => ?_⟩
      rcases List.mem_cons.1 hu with rfl | hu
      · exact s1
      · exact s2 u hu
    · cases h
theorem keyX_ok {f : Nat} {args : List AV} {ob : Ob} {tk : Nat} {r : AV × Ob × Nat} (h : keyX f args ob tk = some r) : keyE args ob tk fun a o t => (a, o, t) = r := by
  unfold keyX at h
  split at h
  · split at h
    · rename_i v l hv
      obtain ⟨e, s⟩ := valsOf_ok hv
      split at h
      · rename_i hl
        cases h
        exact ⟨v :: l, by rw [e], by simp, by simp; omega, s, rfl⟩
      · cases h
    · cases h
  · cases h

/-- bytealg.CompareString. -/
def cmpE : Ext := fun args ob tk R => ∃ a b : ByteArray, args = [.str a, .str b] ∧ R (.i (Lib.compareBytes a.data.toList b.data.toList)) ob tk
def cmpX : Orc := fun _ args ob tk =>
  match args with
  | [.v (.string a), .v (.string b)] => some (.i (Lib.compareBytes a.data.toList b.data.toList), ob, tk)
  | _ => none
theorem cmpX_ok {f : Nat} {args : List AV} {ob : Ob} {tk : Nat} {r : AV × Ob × Nat} (h : cmpX f args ob tk = some r) : cmpE args ob tk fun a o t => (a, o, t) = r := by
  unfold cmpX at h
  split at h
  · cases h; exact ⟨_, _, rfl, rfl⟩
  · cases h

/-- An extern function that is one computation. -/
structure ExtFn (e : Ext) : Prop where
  mono : ∀ args ob tk (R R' : AV → Ob → Nat → Prop), (∀ a o t, R a o t → R' a o t) → e args ob tk R → e args ob tk R'
  conj : ∀ args ob tk (R R' : AV → Ob → Nat → Prop), e args ob tk R → e args ob tk R' → e args ob tk fun a o t => R a o t ∧ R' a o t
  tick : ∀ args ob tk (R : AV → Ob → Nat → Prop), e args ob tk R → ∃ a o t, R a o t ∧ tk ≤ t

theorem valA_inj {u v : Val3} (h : valA u = valA v) : u = v := by
  unfold valA at h
  injection h with _ h
  injection h with h1 h2
  injection h2 with h2 h3
  injection h3 with h3 _
  obtain ⟨a, b, c⟩ := u
  obtain ⟨a', b', c'⟩ := v
  simp at h1 h2 h3
  rw [Int.ofNat.inj h1, Int.ofNat.inj h2, h3]
theorem map_valA_inj : ∀ {l m : List Val3}, l.map valA = m.map valA → l = m
  | [], [], _ => rfl
  | [], _ :: _, h => by simp at h
  | _ :: _, [], h => by simp at h
  | a :: l, b :: m, h => by
    simp only [List.map_cons, List.cons.injEq] at h
    rw [valA_inj h.1, map_valA_inj h.2]

theorem keyE_fn : ExtFn keyE where
  mono := fun _ _ _ _ _ h ⟨l, h1, h2, h3, h4, h5⟩ => ⟨l, h1, h2, h3, h4, h _ _ _ h5⟩
  conj := fun _ _ _ _ _ ⟨l, h1, h2, h3, h4, h5⟩ ⟨l', k1, k2, k3, k4, k5⟩ => by
    rw [h1] at k1
    have : l = l' := map_valA_inj (by simpa using k1)
    subst this
    exact ⟨l, h1, h2, h3, h4, h5, k5⟩
  tick := fun _ _ _ _ ⟨_, _, _, _, _, h5⟩ => ⟨_, _, _, h5, Nat.le_refl _⟩
theorem cmpE_fn : ExtFn cmpE where
  mono := fun _ _ _ _ _ h ⟨a, b, h1, h2⟩ => ⟨a, b, h1, h _ _ _ h2⟩
  conj := fun _ _ _ _ _ ⟨a, b, h1, h2⟩ ⟨a', b', k1, k2⟩ => by
    rw [h1] at k1
    simp at k1
    obtain ⟨rfl, rfl⟩ := k1
    exact ⟨a, b, h1, h2, k2⟩
  tick := fun _ _ _ _ ⟨_, _, _, h2⟩ => ⟨_, _, _, h2, Nat.le_refl _⟩
end Go.Fw
