import Derived.Test.YtniofejaoleipaaGreatDoorDelRow
import Derived.Test.YtniofejaoleipaaGreatDoorApS
/-
  Changes as they come in.
-/
namespace Go.Fw
open Go.RowKit Go.Proofs
section
variable {H : Type} {enc : TypeId × Value → H} {w : World} {base : Nat} {sp : Nat → Bool} {held : Bool} {nm : Nat → FuncId} {β : Beta}

theorem c26 : Tryz.prog.cellsOf 26 = 1 := by kernel_rfl
theorem c31 : Tryz.prog.cellsOf 31 = 1 := by kernel_rfl
theorem c38 : Tryz.prog.cellsOf 38 = 6 := by kernel_rfl
theorem c60 : Tryz.prog.cellsOf 60 = 3 := by kernel_rfl

theorem opens_Fact : OpensAs enc Tryz.prog w base sp held nm β 60 3 Fact.a := by
  intro n cs x h
  have hl := struct_len Tryz.underlying60 h
  rw [c60] at hl
  obtain ⟨r, hr⟩ := part_of Tryz.underlying60 h 0 _ rfl c54 opens_row
  obtain ⟨p, hp⟩ := part_of Tryz.underlying60 h 1 _ rfl c56 opens_Per
  refine ⟨⟨r, p⟩, ?_, hl⟩
  unfold Fact.a RC
  refine rcf_cons (by omega) hr (rcf_cons (by simp; omega) hp (rcf_nil ?_))
  simp
  omega
theorem opens_facts : OpensAs enc Tryz.prog w base sp held nm β 26 1 factsA := opens_sl Tryz.underlying26 c60 (by decide) opens_Fact
theorem opens_ints : OpensAs enc Tryz.prog w base sp held nm β 31 1 intsA := opens_sl Tryz.underlying31 c3 (by decide) (opens_int Tryz.underlying3)
/-- A Change. -/
structure Change where
  ids : List Int
  fs : List Fact
  time : Int
  tx : Int
  first : Int
  schema : Int
def Change.a (c : Change) : AV := changeA c.ids c.fs c.time c.tx c.first c.schema
theorem opens_Change : OpensAs enc Tryz.prog w base sp held nm β 38 6 Change.a := by
  intro n cs x h
  have hl := struct_len Tryz.underlying38 h
  rw [c38] at hl
  obtain ⟨a, ha⟩ := part_of Tryz.underlying38 h 0 _ rfl c31 opens_ints
  obtain ⟨b, hb⟩ := part_of Tryz.underlying38 h 1 _ rfl c26 opens_facts
  obtain ⟨c, hc⟩ := part_of Tryz.underlying38 h 2 _ rfl c3 (opens_int Tryz.underlying3)
  obtain ⟨d, hd⟩ := part_of Tryz.underlying38 h 3 _ rfl c3 (opens_int Tryz.underlying3)
  obtain ⟨e, he⟩ := part_of Tryz.underlying38 h 4 _ rfl c3 (opens_int Tryz.underlying3)
  obtain ⟨f, hf⟩ := part_of Tryz.underlying38 h 5 _ rfl c3 (opens_int Tryz.underlying3)
  refine ⟨⟨a, b, c, d, e, f⟩, ?_, hl⟩
  unfold Change.a changeA RC
  refine rcf_cons (by omega) (by simpa using ha) (rcf_cons (by simp; omega) (by simpa using hb) (rcf_cons (by simp; omega) (by simpa using hc) (rcf_cons (by simp; omega) (by simpa using hd) (rcf_cons (by simp; omega) (by simpa using he) (rcf_cons (by simp; omega) (by simpa using hf) (rcf_nil ?_))))))
  simp
  omega
end
end Go.Fw
