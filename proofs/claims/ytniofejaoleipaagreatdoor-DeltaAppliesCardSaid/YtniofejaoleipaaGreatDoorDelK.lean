import Derived.Test.YtniofejaoleipaaGreatDoorDelT
import Derived.Test.YtniofejaoleipaaGreatDoorKExt
import Derived.KernelRfl
import Derived.Test.YtniofejaoleipaaGreatDoorProg
/-
  The codes against the program.
-/
namespace Go.Fw
open Go.Proofs
set_option maxRecDepth 100000
def numL : List Nat := [0, 2, 1, 3, 9, 10, 12, 13, 11, 14, 15, 4, 16, 17, 18, 19, 20, 21, 5, 22, 23, 24, 6, 25, 26, 27, 7, 28, 29, 30, 31, 8, 32, 33, 34, 35, 36, 39, 40, 41, 42, 43, 44, 45, 46, 52, 53, 54, 55, 56, 57, 58, 59, 60, 61, 62, 64, 63, 66, 65, 38, 37, 67, 68, 69, 72, 51, 73, 74, 47, 48, 75, 49, 76, 50, 77, 78, 79, 80, 81, 82, 83, 84, 85, 86, 87, 88, 71, 70, 89, 90, 91, 92, 93, 94, 95, 96, 97, 98, 99, 100, 101, 102, 103, 105, 106, 107, 108, 109, 110, 111, 113, 112, 114, 115, 116, 117, 118, 119, 120, 121, 122, 104, 124, 123, 125, 126, 127, 128, 129, 130, 131, 132, 133, 134, 135, 136, 137, 138, 139, 140, 141, 143, 144, 145, 146, 147, 148, 149, 150, 151, 152, 153, 154, 155, 156, 157, 158, 159, 160, 162, 163, 164, 165, 166, 167, 168, 169, 170, 171, 173, 174, 175, 176, 172, 180, 177, 178, 179, 181, 182, 205]
def num (k : Nat) : FuncId := numL.getD k 0
def hd0 (l : List (Nat × YInfo)) : YInfo := match l with | p :: _ => p.2 | [] => ⟨[], [], .skip, .skip, 0⟩
noncomputable def yI0 : YInfo := hd0 (colFn Tryz.prog num 6 c_delta_Facts)
noncomputable def yI1 : YInfo := hd0 (colFn Tryz.prog num 14 c_delta_Between)
noncomputable def yI2 : YInfo := hd0 (colFn Tryz.prog num 76 c_delta_find)
noncomputable def yiL : List (Nat × YInfo) := [(1000000, yI0), (1000001, yI1), (1000002, yI2)]
noncomputable instance : YI := ⟨fun k => lk yiL k⟩
theorem colF0 : colFn Tryz.prog num 6 c_delta_Facts = [(1000000, yI0)] := by kernel_rfl
theorem colF1 : colFn Tryz.prog num 14 c_delta_Between = [(1000001, yI1)] := by kernel_rfl
theorem colF2 : colFn Tryz.prog num 76 c_delta_find = [(1000002, yI2)] := by kernel_rfl
theorem codes_ok : codeT.all (chkC Tryz.prog num [6, 14, 76]) = true := by kernel_rfl
theorem yis_ok : chkYi Tryz.prog num codeT yiL = true := by kernel_rfl
theorem cols_ok (k : Nat) (fn : AFun) (h : inL k [6, 14, 76] = true) (hg : codeT.get k = some fn) : Cols (colFn Tryz.prog num k fn) := by
  simp only [inL, Bool.or_false, Bool.or_eq_true] at h
  rcases h with h | h | h
  · have hk := Nat.eq_of_beq_eq_true h
    subst hk
    have e : fn = c_delta_Facts := by
      have h2 : codeT.get 6 = some c_delta_Facts := by kernel_rfl
      rw [h2] at hg
      cases hg
      rfl
    subst e
    rw [colF0]
    intro p hp
    rw [List.mem_singleton.1 hp]
    rfl
  · have hk := Nat.eq_of_beq_eq_true h
    subst hk
    have e : fn = c_delta_Between := by
      have h2 : codeT.get 14 = some c_delta_Between := by kernel_rfl
      rw [h2] at hg
      cases hg
      rfl
    subst e
    rw [colF1]
    intro p hp
    rw [List.mem_singleton.1 hp]
    rfl
  · have hk := Nat.eq_of_beq_eq_true h
    subst hk
    have e : fn = c_delta_find := by
      have h2 : codeT.get 76 = some c_delta_find := by kernel_rfl
      rw [h2] at hg
      cases hg
      rfl
    subst e
    rw [colF2]
    intro p hp
    rw [List.mem_singleton.1 hp]
    rfl
theorem exts_ok (k : Nat) (e : Ext) (h : extT k = some e) : ExtFn e ∧ lk yiL k = none ∧ ∀ args ob tk R, e args ob tk R → CallOk Tryz.prog num k args ob tk R := by
  unfold extT at h
  split at h
  · rename_i hb
    cases h
    have e := Nat.eq_of_beq_eq_true hb
    subst e
    exact ⟨keyE_fn, rfl, keyOk (by kernel_rfl)⟩
  · skip
    split at h
    · rename_i hb
      cases h
      have e := Nat.eq_of_beq_eq_true hb
      subst e
      exact ⟨cmpE_fn, rfl, cmpOk (by kernel_rfl)⟩
    · skip
      cases h
theorem tab_ok : TabOk Tryz.prog num TT := tabOk (fun _ => rfl) codes_ok cols_ok yis_ok exts_ok
end Go.Fw
