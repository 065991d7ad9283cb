import Derived.Test.YtniofejaoleipaaGreatDoorDelT
import Derived.Test.YtniofejaoleipaaGreatDoorFwSimp
import Derived.KernelRfl
/-
  The examples of the chapter: awake is true.
-/
namespace Go.Fw
def O0 : Orc := fun f => match Nat.beq f 108 with
  | true => keyX f
  | false => match Nat.beq f 139 with
    | true => cmpX f
    | false => fun _ _ _ => none

theorem extFn (k : Nat) (e : Ext) (h : extT k = some e) : ExtFn e := by
  unfold extT at h
  split at h
  · cases h; exact keyE_fn
  · split at h
    · cases h; exact cmpE_fn
    · cases h
theorem extOk : ExtOk TT := tabT_exts extFn

theorem ext_in {k : Nat} {e : Ext} (h : codeT.get k = none) (hx : extT k = some e) {args : List AV} {ob : Ob} {tk : Nat} {R : AV → Ob → Nat → Prop} (he : e args ob tk R) : Holds TT (.call k args ob tk R) := by
  refine Holds.in ?_
  simp only [stepJ, TT, tabT_ext h hx]
  exact he

theorem O0_ok : OrcOk TT O0 := by
  intro f args ob tk r h
  unfold O0 at h
  cases hb : Nat.beq f 108 with
  | true =>
    rw [hb] at h
    have e := Nat.eq_of_beq_eq_true hb
    subst e
    exact ext_in (by kernel_rfl) (by kernel_rfl) (keyX_ok h)
  | false =>
    rw [hb] at h
    cases hb2 : Nat.beq f 139 with
    | true =>
      rw [hb2] at h
      have e := Nat.eq_of_beq_eq_true hb2
      subst e
      exact ext_in (by kernel_rfl) (by kernel_rfl) (cmpX_ok h)
    | false =>
      rw [hb2] at h
      cases h

def isT (o : Option (AV × Ob × Nat)) : Bool := match o with
  | some (.v (.bool true), _, _) => true
  | _ => false
theorem awake_run : isT (runF codeT.get O0 1000 5 [] [] 1) = true := by kernel_rfl
theorem isT_inv : ∀ {o : Option (AV × Ob × Nat)}, isT o = true → ∃ ob t, o = some (.b true, ob, t)
  | some (.v (.bool true), ob, t), _ => ⟨ob, t, rfl⟩
theorem awake_ok (ks : List Nat) : retZ TT 5 [] [] ks = some (.b true) := by
  obtain ⟨o, t, hr⟩ := isT_inv awake_run
  have h2 := runF_ok extOk (fun f fn hf => tabT_code hf) O0_ok 1000 _ _ _ _ _ hr
  refine retZ_eq extOk rfl (h2.weak extOk.mono ⟨rfl, rfl, rfl, rfl, ?_⟩)
  rintro a o' t' hh
  cases hh
  rfl
end Go.Fw
