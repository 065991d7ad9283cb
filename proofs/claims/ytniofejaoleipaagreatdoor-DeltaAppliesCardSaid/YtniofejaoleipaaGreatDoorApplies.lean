import Derived.Test.YtniofejaoleipaaGreatDoorApRow
import Derived.Test.YtniofejaoleipaaGreatDoorFwLaw
import Derived.Test.YtniofejaoleipaaGreatDoorRows
import Derived.Test.YtniofejaoleipaaGreatDoorCards
import Derived.Test.YtniofejaoleipaaGreatDoorTie
import Derived.ProofKit
import Derived.LaidMore
import Derived.OpenShut
import Derived.Stop.Joined
import Derived.SizedLaws
import Derived.SevenTiedAt
/-
  DeltaApplies: the row and the tied card.
-/
namespace Go.Proofs.YtniofejaoleipaaGreatDoor
open Go.ChangeShapes Go.WideShapes Go.ChangeAt Go.RowKit Go.Fw

theorem own : ownKnob Tryz.prog.godebug = none := by kernel_rfl
theorem laidOut : laidOutB Tryz.prog = true := by kernel_rfl

/-- The door's own heap meets the condition. -/
theorem door_met (os : Os) (args : Array Value) : laidMetH Tryz.prog Rows.deltaAppliesRow.laid ((World.doorLaid Tryz.prog 400 os).forCall (fun _ _ => 0) ⟨#[], args, []⟩).memory :=
  laidMetH_of_parts3 (fuel := 8) (laidMet_of_run' 8 (by kernel_rfl) (by kernel_rfl)) (by kernel_rfl) (by kernel_rfl)

set_option maxRecDepth 100000 in
theorem applies_lifted (os : Os) (started : os.Started) (H : Type) (enc : TypeId × Value → H) :
    ReturnsInHanded {} Tryz.checked os 5 .any (fun w args => (Rows.deltaAppliesSpec.pre enc Tryz.prog Tryz.f5 [] false w args ∧ laidMetH Tryz.prog Rows.deltaAppliesRow.laid w) ∧ sizedMet enc Tryz.prog Tryz.f5 (OpenSpec.ofChange Rows.deltaAppliesSpec) false w args)
      (Rows.deltaAppliesSpec.post enc Tryz.prog Tryz.f5 false true false false) := by
  refine returnsInHanded_of_change_and (C := Tryz.checked) (X := fun w _ => laidMetH Tryz.prog Rows.deltaAppliesRow.laid w) (fun _ _ _ hh h => h.of_heap hh) own started (by kernel_rfl) Tryz.func5
    (ChangeSpec.witness_shaped (enc := enc) (C := Tryz.checked) (os := os) (X := fun w _ => laidMetH Tryz.prog Rows.deltaAppliesRow.laid w) false (World.doorLaid Tryz.prog 400 os) #[.slice none 0 0, .agg #[.slice none 0 0, .slice none 0 0, .int .i64 0, .int .i64 0, .int .i64 0, .int .i64 0]] 8 rfl (World.shaped_of_RefB (by kernel_rfl) (by kernel_rfl)) (by kernel_rfl) (by kernel_rfl) (by kernel_rfl) (door_met os _)) ?_
  intro W base args ds gs before hval0 hW _ hsz0 hL _
  have hsz : (DataW.weightsEach Tryz.prog (Tryz.f5.params.toList ++ Rows.deltaAppliesSpec.plain.varTypes Tryz.prog) (ds ++ gs)).all (· ≤ reachBytes) = true := hsz0
  have hval : ∀ (j : Nat) t v, Tryz.f5.params[j]? = some t → args[j]? = some v → Value.okWide Tryz.prog W .any base t v := hval0
  have hW' := hW
  obtain ⟨p, q, hA0, hV, rfl, hfz, hnd⟩ := hW
  have hA : DataW.TrodAll enc Tryz.prog W 0 (fun _ => true) true Tryz.f5.params.toList args.toList ds p := hA0
  rw [Tryz.params5] at hA hval hsz
  obtain ⟨v0, v1, d0, d1, p0, p1, rfl, rfl, rfl, h0, h1⟩ := trodAll_two hA
  obtain ⟨rfl, rfl⟩ := trodVars_none hV
  obtain ⟨a0, n0, k0, rfl⟩ := okWide_slice Tryz.underlying22 (hval 0 22 v0 rfl rfl)
  obtain ⟨c1, rfl, hc1s⟩ := okWide_struct Tryz.underlying38 (hval 1 38 v1 rfl rfl)
  have kept1 := h1
  have lt1 : ∀ x ∈ p1, x.block < W.heap.size := by
    obtain ⟨m, hm⟩ := h1
    exact DataW.trod_lt m _ _ _ hm
  obtain ⟨m1, hm1⟩ := h1
  obtain ⟨ch, hrc1, _⟩ := opens_Change (nm := num) (β := fun _ _ => none) _ _ _ hm1
  have kept := h0
  have lt0 : ∀ x ∈ p0, x.block < W.heap.size := by
    obtain ⟨m, hm⟩ := h0
    exact DataW.trod_lt m _ _ _ hm
  obtain ⟨m, hm⟩ := h0
  obtain ⟨l, hrc, hc1, hlen⟩ := opens_slice (num := num) (β := fun _ _ => none) Tryz.underlying22 c58 (by decide) opens_Ver hm
  have hb : l.length ≤ 3518437208883 := by
    rcases hlen with ⟨rfl, _⟩ | ⟨el, rest, h2, h3⟩
    · simp
    · have h2' : d0 = .slice el rest := h2
      subst h2'
      have h4 := sized_slice hsz (j := 0) (t := 22) rfl rfl Tryz.underlying22
      have h5 : Tryz.prog.bytesOf 58 = 88 := by kernel_rfl
      rw [h5] at h4
      have h6 := reachBytes_lt
      omega
  have ha : RCv num W (allF W) (fun _ _ => none) [versA l, ch.a] [.slice a0 n0 k0, .agg c1] := by
    refine RCv_cons.2 ⟨_, _, rfl, ⟨#[.slice a0 n0 k0], .inr ⟨rfl, rfl⟩, hrc⟩, RCv_cons.2 ⟨_, _, rfl, ⟨c1, .inl ⟨rfl, rfl⟩, hrc1⟩, ?_⟩⟩
    unfold RCv
    rfl
  clear hA0 hval0 hsz0 hsz
  refine (law_true tab_ok (f := 18) (by decide) (u_DeltaApplies l ch.ids ch.fs ch.time ch.tx ch.first ch.schema hb) ha).mono fun e W' ⟨he, bel⟩ => ?_
  subst he
  exact ⟨_, rfl, _, _, _, [], _, [], hW', trodAll_mk1 (shut_bool Tryz.underlying4 _), (trodAll_cons_mk (Below.trod laidOut (by kernel_rfl) (of_decide_eq_true (by kernel_rfl)) kept bel lt0) (trodAll_cons_mk (Below.trod laidOut (by kernel_rfl) (of_decide_eq_true (by kernel_rfl)) kept1 bel lt1) trodAll_mk0)), rfl, bel.frame _, fun h => by cases h⟩

theorem applies_row : Rows.DeltaAppliesSaid :=
  OpenClaim.holds_of_wide 5 Tryz.f5 rfl rfl rfl rfl rfl rfl rfl ⟨rfl, rfl, rfl, rfl, rfl⟩ rfl rfl rfl rfl rfl (by kernel_rfl) Tryz.func5 (by kernel_rfl)
    (of_decide_eq_true (by kernel_rfl)) (by unfold Func.isWrapper; first | (rw [if_pos (by decide +kernel)]; kernel_rfl) | (rw [if_neg (by decide +kernel)]; exact ⟨rfl, rfl⟩))
    (fun os started H enc _ => applies_lifted os started H enc)

/-- The tied card. -/
theorem deltaApplies_holds : Rows.DeltaAppliesCardSaid :=
  Claim7.holds_tied_plain_at .later [] [.data, .data, .data] true (true, "ae65c9b4381a8829ceccb9895bedb7740a1b1e4984fb81e9af0d802d242c1282") false
    applies_row (fun _ h => by cases h) (by kernel_rfl) (fun _ h => by cases h) deltaApplies_row_tie rfl ⟨rfl, rfl⟩ (by kernel_rfl) rfl
    (fun f fn hf hfn => by
      obtain rfl : f = 5 := Option.some.inj ((show Tryz.prog.funcNamed Rows.deltaAppliesRow.func = some 5 by kernel_rfl).symm.trans hf) |>.symm
      obtain rfl : fn = Tryz.f5 := (Option.some.inj (Tryz.func5.symm.trans hfn)).symm
      exact ⟨by kernel_rfl, fun j t ht => by
        rw [Tryz.params5] at ht
        have hm : t ∈ [22, 38] := by simpa using Array.mem_of_getElem? ht
        have hall : ([22, 38].all fun u => !Tryz.prog.wantsStandIn u) = true := by kernel_rfl
        exact (show Tryz.prog.wantsStandIn t = false by simpa using List.all_eq_true.1 hall t hm)⟩)
    (by kernel_rfl)
end Go.Proofs.YtniofejaoleipaaGreatDoor
