import Derived.Test.YtniofejaoleipaaGreatDoorFwFun
import Derived.Test.YtniofejaoleipaaGreatDoorFwKey
import Derived.Below
/-
  Library functions that leave what was there as it was.
-/
namespace Go.Fw
open Go.RowKit
variable [YI]
section
variable {P : Program} {num : Nat → FuncId} {w w' : World} {F : Nat → Prop} {β : Beta} {ob : Ob}

theorem step_of_below {n : Nat → Prop} (hi : Inv num w F β ob) (hb : Below w.heap.size w w') : Step num w F β ob w' F β ob n := by
  have hl : Later w F β w' F β := by
    refine ⟨fun _ h => h, fun b h => hb.block b (hi.fin b h), fun b m hm => ?_, fun _ _ _ h => h⟩
    have hlt : b < w.heap.size := by
      unfold blkSize at hm
      split at hm
      · rename_i h; exact (Array.getElem?_eq_some_iff.1 h).1
      · cases hm
    unfold blkSize at hm ⊢
    rw [hb.block b hlt]
    exact hm
  refine ⟨hl, ⟨hb.os, hb.tape, hb.output, hb.size, fun b hlt _ => hb.block b hlt, fun b h => .inl h⟩, hi.later hl (fun b h => Nat.lt_of_lt_of_le (hi.fin b h) hb.size) (fun b hlive => ?_), fun b h => .inl h, fun _ _ _ h => .inl h⟩
  obtain ⟨p, g, o, h1, h2⟩ := hlive
  obtain ⟨h3, h4⟩ := hi.own p g o b h1 h2
  exact ⟨hb.block b h4, h3, Nat.lt_of_lt_of_le h4 hb.size⟩

theorem callOk_pure {f : Nat} {args : List AV} {ob : Ob} {tk : Nat} {R : AV → Ob → Nat → Prop} {a : AV} {v : Value} (hen : Enters P (num f)) (ha : atom v = true) (hav : a = .v v) (hR : R a ob tk)
    (h : ∀ (w : World) (F : Nat → Prop) (β : Beta) (vs : List Value), Inv num w F β ob → RCv num w F β args vs → Calls P (num f) vs.toArray w fun e w' => e = .returned v ∧ Below w.heap.size w w') : CallOk P num f args ob tk R := by
  refine ⟨hen, fun w F β vs h1 hi hg hr => ?_⟩
  refine callsIn_wide.2 ((h w F β vs hi hr).mono ?_)
  rintro e w' ⟨rfl, hb⟩
  subst hav
  exact ⟨_, ob, tk, F, β, hR, Nat.le_refl _, RX.of_atom ha, step_of_below hi hb⟩
end
end Go.Fw
