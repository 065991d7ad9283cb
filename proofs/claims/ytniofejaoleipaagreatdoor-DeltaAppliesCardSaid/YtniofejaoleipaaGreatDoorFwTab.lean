import Derived.Test.YtniofejaoleipaaGreatDoorFwFun
import Derived.Test.YtniofejaoleipaaGreatDoorFwKey
/-
  The table of codes as a tree; what is to be checked of it.
-/
namespace Go.Fw

inductive Tr where
  | nil
  | leaf (k : Nat) (fn : AFun)
  | node (m : Nat) (l r : Tr)
def Tr.get : Tr → Nat → Option AFun
  | .nil, _ => none
  | .leaf k fn, f => match Nat.beq f k with
    | true => some fn
    | false => none
  | .node m l r, f => match Nat.blt f m with
    | true => l.get f
    | false => r.get f
def Tr.all (p : Nat → AFun → Bool) : Tr → Bool
  | .nil => true
  | .leaf k fn => p k fn
  | .node _ l r => l.all p && r.all p
theorem Tr.get_all {p : Nat → AFun → Bool} : ∀ {t : Tr} {f : Nat} {fn : AFun}, t.all p = true → t.get f = some fn → p f fn = true
  | .nil, f, fn, _, h => by cases h
  | .leaf k c, f, fn, ha, h => by
    unfold Tr.get at h
    split at h
    · rename_i hb
      cases h
      rw [Nat.eq_of_beq_eq_true hb]
      exact ha
    · cases h
  | .node m l r, f, fn, ha, h => by
    unfold Tr.all at ha
    simp only [Bool.and_eq_true] at ha
    unfold Tr.get at h
    split at h
    · exact Tr.get_all ha.1 h
    · exact Tr.get_all ha.2 h

/-- The table: codes, and library functions. -/
def tabT (t : Tr) (x : Nat → Option Ext) : Nat → Option ADef := fun k =>
  match t.get k with
  | some fn => some (.code fn)
  | none => match x k with
    | some e => some (.ext e)
    | none => none
theorem tabT_code {t : Tr} {x : Nat → Option Ext} {k : Nat} {fn : AFun} (h : t.get k = some fn) : tabT t x k = some (.code fn) := by
  unfold tabT; rw [h]
theorem tabT_ext {t : Tr} {x : Nat → Option Ext} {k : Nat} {e : Ext} (h : t.get k = none) (hx : x k = some e) : tabT t x k = some (.ext e) := by
  unfold tabT; rw [h, hx]
theorem tabT_inv_code {t : Tr} {x : Nat → Option Ext} {k : Nat} {fn : AFun} (h : tabT t x k = some (.code fn)) : t.get k = some fn := by
  unfold tabT at h
  split at h
  · rename_i h1; cases h; exact h1
  · split at h <;> cases h
theorem tabT_inv_ext {t : Tr} {x : Nat → Option Ext} {k : Nat} {e : Ext} (h : tabT t x k = some (.ext e)) : x k = some e := by
  unfold tabT at h
  split at h
  · cases h
  · split at h
    · rename_i h1; cases h; exact h1
    · cases h

theorem tabT_exts {t : Tr} {x : Nat → Option Ext} (hx : ∀ k e, x k = some e → ExtFn e) : ExtOk (tabT t x) :=
  ⟨fun f e h => (hx f e (tabT_inv_ext h)).mono, fun f e h => (hx f e (tabT_inv_ext h)).conj, fun f e h => (hx f e (tabT_inv_ext h)).tick⟩

def inL (k : Nat) : List Nat → Bool
  | [] => false
  | m :: r => Nat.beq k m || inL k r

variable [YI]
/-- The check of a code; L: the functions with ranges over functions. -/
def chkC (P : Program) (num : Nat → FuncId) (L : List Nat) (k : Nat) (fn : AFun) : Bool :=
  match Nat.blt k 1000000 with
  | true => chkFn P num k fn && (!hasRng fn.body || inL k L)
  | false => true
def chkYi (P : Program) (num : Nat → FuncId) (t : Tr) : List (Nat × YInfo) → Bool
  | [] => true
  | (k, i) :: r => (match t.get k with
    | some fn => chkRnd P num i fn
    | none => true) && chkYi P num t r
omit [YI] in
theorem chkYi_get {P : Program} {num : Nat → FuncId} {t : Tr} : ∀ {l : List (Nat × YInfo)} {k : Nat} {i : YInfo} {fn : AFun}, chkYi P num t l = true → lk l k = some i → t.get k = some fn → chkRnd P num i fn = true
  | [], k, i, fn, _, h, _ => by cases h
  | (m, j) :: r, k, i, fn, hc, h, hg => by
    unfold chkYi at hc
    simp only [Bool.and_eq_true] at hc
    unfold lk at h
    split at h
    · rename_i he
      cases h
      rw [← he, hg] at hc
      exact hc.1
    · exact chkYi_get hc.2 h hg

omit [YI] in
theorem col_fn {P : Program} {num : Nat → FuncId} {k : Nat} {fn : AFun} (h : hasRng fn.body = false) : colFn P num k fn = [] := by
  unfold colFn
  split
  · split
    · exact col_none _ _ h
    · rfl
  · rfl

theorem tabOk {P : Program} {num : Nat → FuncId} {t : Tr} {x : Nat → Option Ext} {L : List Nat} {yl : List (Nat × YInfo)} (hy : ∀ k, YI.yi k = lk yl k)
    (hc : t.all (chkC P num L) = true) (hl : ∀ k fn, inL k L = true → t.get k = some fn → Cols (colFn P num k fn)) (hr : chkYi P num t yl = true)
    (hx : ∀ k e, x k = some e → ExtFn e ∧ lk yl k = none ∧ ∀ args ob tk R, e args ob tk R → CallOk P num k args ob tk R) : TabOk P num (tabT t x) := by
  refine ⟨fun k fn h hk => ?_, fun k e h => ?_, fun k i fn h hi => ?_, tabT_exts fun k e h => (hx k e h).1⟩
  · have hg := tabT_inv_code h
    have h1 := Tr.get_all hc hg
    unfold chkC at h1
    split at h1
    · simp only [Bool.and_eq_true, Bool.or_eq_true, Bool.not_eq_true'] at h1
      refine ⟨h1.1, ?_⟩
      rcases h1.2 with h2 | h2
      · rw [col_fn h2]
        intro p hp
        simp at hp
      · exact hl k fn h2 hg
    · rename_i hb
      have : Nat.blt k 1000000 = true := by
        rw [Nat.blt_eq]
        exact hk
      rw [this] at hb
      cases hb
  · have h1 := hx k e (tabT_inv_ext h)
    exact ⟨(hy k).trans h1.2.1, h1.2.2⟩
  · exact chkYi_get hr ((hy k).symm.trans hi) (tabT_inv_code h)
end Go.Fw
