import Derived.Test.YtniofejaoleipaaGreatDoorFwOpen
/-
  A law that yields true in the abstract machine returns true in the program's.
-/
namespace Go.Fw
open Go.RowKit
variable [YI]
section
variable {P : Program} {num : Nat → FuncId}
theorem inv_start (w : World) (β : Beta) : Inv num w (allF w) β [] := by
  refine ⟨fun _ h => h, fun p g o h => ?_, fun p g o b h => ?_, fun p g o p' g' o' b h => ?_⟩
  · unfold lk at h; cases h
  · unfold lk at h; cases h
  · unfold lk at h; cases h

theorem law_true {T : Nat → Option ADef} (hT : TabOk P num T) {f : Nat} {args : List AV} (hf : f < 1000000) (h : retZ T f args [] [0] = some (.b true)) {W : World} {vs : List Value} (ha : RCv num W (allF W) (fun _ _ => none) args vs) :
    Calls P (num f) vs.toArray W fun e W' => e = .returned (.bool true) ∧ Below W.heap.size W W' := by
  have h1 := (retZ_spec h).2
  have h2 : CallJob P num f args [] 1 _ := job_sound hT h1
  obtain ⟨_, h3⟩ := h2.1 hf
  refine (callsIn_wide.1 (h3 W (allF W) (fun _ _ => none) vs (Nat.le_refl _) (inv_start W _) (fun _ _ _ h => by cases h) ha)).mono ?_
  intro e w' hp
  cases e with
  | returned v =>
    obtain ⟨a, ob', tk', F', β', hr, _, hx, hs⟩ := hp
    have h4 := frozen_run (β' := β') hs.inv hr hx
    refine ⟨by rw [h4.atom_inv], hs.chg.os, hs.chg.tape, hs.chg.output, hs.chg.size, fun b hb => hs.chg.block b hb ?_⟩
    rintro ⟨p, g, o, k, _⟩
    unfold lk at k
    cases k
  | _ => exact hp.elim
end
end Go.Fw
