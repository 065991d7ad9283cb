import Derived.Test.YtniofejaoleipaaGreatDoorFwOpen
import Derived.Test.YtniofejaoleipaaGreatDoorDelS
import Derived.Test.YtniofejaoleipaaGreatDoorDelK
import Derived.Test.YtniofejaoleipaaGreatDoorProg
/-
  Histories as they come in.
-/
namespace Go.Fw
open Go.RowKit Go.Proofs
section
variable {H : Type} {enc : TypeId × Value → H} {w : World} {base : Nat} {sp : Nat → Bool} {held : Bool} {nm : Nat → FuncId} {β : Beta}

theorem c3 : Tryz.prog.cellsOf 3 = 1 := by kernel_rfl
theorem c9 : Tryz.prog.cellsOf 9 = 1 := by kernel_rfl
theorem c54 : Tryz.prog.cellsOf 54 = 1 := by kernel_rfl
theorem c56 : Tryz.prog.cellsOf 56 = 2 := by kernel_rfl
theorem c58 : Tryz.prog.cellsOf 58 = 9 := by kernel_rfl
theorem c90 : Tryz.prog.cellsOf 90 = 3 := by kernel_rfl

theorem opens_Per : OpensAs enc Tryz.prog w base sp held nm β 56 2 Per.a := by
  intro n cs x h
  have hl := struct_len Tryz.underlying56 h
  rw [c56] at hl
  obtain ⟨a, ha⟩ := part_of Tryz.underlying56 h 0 _ rfl c3 (opens_int Tryz.underlying3)
  obtain ⟨b, hb⟩ := part_of Tryz.underlying56 h 1 _ rfl c3 (opens_int Tryz.underlying3)
  refine ⟨⟨a, b⟩, ?_, hl⟩
  unfold Per.a RC
  refine rcf_cons (by omega) ha (rcf_cons (by simp; omega) hb (rcf_nil ?_))
  simp
  omega
theorem opens_Val : OpensAs enc Tryz.prog w base sp held nm β 90 3 Val.a := by
  intro n cs x h
  have hl := struct_len Tryz.underlying90 h
  rw [c90] at hl
  obtain ⟨a, ha⟩ := part_of Tryz.underlying90 h 0 _ rfl c3 (opens_int Tryz.underlying3)
  obtain ⟨b, hb⟩ := part_of Tryz.underlying90 h 1 _ rfl c3 (opens_int Tryz.underlying3)
  obtain ⟨c, hc⟩ := part_of Tryz.underlying90 h 2 _ rfl c9 (opens_str Tryz.underlying9)
  refine ⟨⟨a, b, c⟩, ?_, hl⟩
  unfold Val.a RC
  refine rcf_cons (by omega) ha (rcf_cons (by simp; omega) hb (rcf_cons (by simp; omega) (by simpa using hc) (rcf_nil ?_)))
  simp
  omega
theorem opens_row : OpensAs enc Tryz.prog w base sp held nm β 54 1 rowA := opens_sl Tryz.underlying54 c90 (by decide) opens_Val
theorem opens_Ver : OpensAs enc Tryz.prog w base sp held nm β 58 9 Ver.a := by
  intro n cs x h
  have hl := struct_len Tryz.underlying58 h
  rw [c58] at hl
  obtain ⟨a, ha⟩ := part_of Tryz.underlying58 h 0 _ rfl c3 (opens_int Tryz.underlying3)
  obtain ⟨b, hb⟩ := part_of Tryz.underlying58 h 1 _ rfl c3 (opens_int Tryz.underlying3)
  obtain ⟨r, hr⟩ := part_of Tryz.underlying58 h 2 _ rfl c54 opens_row
  obtain ⟨p, hp⟩ := part_of Tryz.underlying58 h 3 _ rfl c56 opens_Per
  obtain ⟨q, hq⟩ := part_of Tryz.underlying58 h 4 _ rfl c56 opens_Per
  obtain ⟨y, hy⟩ := part_of Tryz.underlying58 h 5 _ rfl c3 (opens_int Tryz.underlying3)
  obtain ⟨u, hu⟩ := part_of Tryz.underlying58 h 6 _ rfl c3 (opens_int Tryz.underlying3)
  refine ⟨⟨a, b, r, p, q, y, u⟩, ?_, hl⟩
  unfold Ver.a RC
  refine rcf_cons (by omega) ha (rcf_cons (by simp; omega) hb (rcf_cons (by simp; omega) (by simpa using hr) (rcf_cons (by simp; omega) (by simpa using hp) (rcf_cons (by simp; omega) (by simpa using hq) (rcf_cons (by simp; omega) (by simpa using hy) (rcf_cons (by simp; omega) (by simpa using hu) (rcf_nil ?_)))))))
  simp
  omega
end
end Go.Fw
