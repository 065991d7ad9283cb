import Derived.Test.YtniofejaoleipaaGreatDoorFwExt
import Derived.Test.YtniofejaoleipaaGreatDoorKAll
/-
  The library functions of this program.
-/
namespace Go.Fw
open Go.RowKit Go.Proofs
variable [YI]
variable {num : Nat → FuncId}

omit [YI] in
theorem numK_eq (v : Val3) (m : Nat) : numK v m = Kb.num v m := by
  match m with
  | 0 => rfl
  | 1 => rfl
  | m + 2 => rfl
omit [YI] in
theorem small_num {v : Val3} (h : v.1 < 100 ∧ v.2.1 < 100 ∧ v.2.2.size < 100) (m : Nat) : numK v m < 100 := by
  match m with
  | 0 => exact h.1
  | 1 => exact h.2.1
  | m + 2 => exact h.2.2
omit [YI] in
theorem partK_eq {v : Val3} (h : v.1 < 100 ∧ v.2.1 < 100 ∧ v.2.2.size < 100) : ∀ m, partK v m = Kb.part v m
  | 0 => rfl
  | m + 1 => by
    unfold partK Kb.part
    rw [partK_eq h m, dec2_eq (small_num h m), numK_eq]
omit [YI] in
theorem keyK_eq : ∀ {l : List Val3}, (∀ v ∈ l, v.1 < 100 ∧ v.2.1 < 100 ∧ v.2.2.size < 100) → keyK l = Kb.keyB l
  | [], _ => rfl
  | v :: l, h => by
    have h1 := keyK_eq fun u hu => h u (List.mem_cons_of_mem _ hu)
    unfold keyK Kb.keyB at h1 ⊢
    rw [List.flatMap_cons, List.flatMap_cons, h1]
    unfold valK Kb.valB
    rw [partK_eq (h v (List.mem_cons_self ..))]

section
variable {w : World} {F : Nat → Prop} {β : Beta}
omit [YI] in
theorem RC_valA {v : Val3} {cs : List Value} (h : RC num w F β (valA v) cs) : cs = [.int .i64 v.1, .int .i64 v.2.1, .string v.2.2] := by
  simp only [valA, RC, RCf] at h
  obtain ⟨c1, r1, rfl, _, ⟨rfl, _⟩, c2, r2, rfl, _, ⟨rfl, _⟩, c3, r3, rfl, _, ⟨rfl, _⟩, rfl⟩ := h
  rfl
omit [YI] in
theorem RCk_vals : ∀ {l : List Val3} {cs : List Value}, RCk num w F β 3 (l.map valA) cs → ∀ (j : Nat) v, l[j]? = some v →
    cs[j * 3]? = some (.int .i64 v.1) ∧ cs[j * 3 + 1]? = some (.int .i64 v.2.1) ∧ cs[j * 3 + 2]? = some (.string v.2.2)
  | [], cs, h, j, v, hj => by simp at hj
  | u :: l, cs, h, j, v, hj => by
    simp only [List.map_cons, RCk] at h
    obtain ⟨c1, c2, rfl, _, h1, h2⟩ := h
    rw [RC_valA h1]
    cases j with
    | zero =>
      simp at hj
      subst hj
      simp
    | succ j =>
      obtain ⟨k1, k2, k3⟩ := RCk_vals h2 j v (by simpa using hj)
      have e : (j + 1) * 3 = j * 3 + 3 := by omega
      rw [e]
      exact ⟨k1, k2, k3⟩
end

theorem keyOk (hn : num 108 = 109) (args : List AV) (ob : Ob) (tk : Nat) (R : AV → Ob → Nat → Prop) (h : keyE args ob tk R) : CallOk Tryz.prog num 108 args ob tk R := by
  obtain ⟨l, rfl, hne, hlen, hs, hR⟩ := h
  have hs' : ∀ v ∈ l, v.1 < 100 ∧ v.2.1 < 100 ∧ v.2.2.size < 100 := fun v hv => by
    have := hs v hv
    unfold smallV at this
    simpa using this
  refine callOk_pure (v := .string ⟨(keyK l).toArray⟩) (by rw [hn]; exact fun args w => Go.Proofs.enters_of Tryz.func109 (by kernel_rfl) rfl args w) rfl rfl hR ?_
  intro w F β vs hi hr
  obtain ⟨v, r, rfl, hx, hr2⟩ := RCv_cons.1 hr
  unfold RCv at hr2
  subst hr2
  obtain ⟨cs, h1, h2⟩ := hx
  rcases h1 with ⟨_, h1⟩ | ⟨rfl, _⟩
  · cases h1
  simp only [RC] at h2
  rcases h2 with ⟨_, h2⟩ | ⟨a, cap, ds, h2, h3, h4, h5⟩
  · exact (hne (by simpa using h2)).elim
  · simp at h2
    subst h2
    have hcells := RCk_vals h5
    have hds : ds ≠ [] := by
      intro e
      subst e
      cases l with
      | nil => exact hne rfl
      | cons u l =>
        have := (hcells 0 u rfl).1
        simp at this
    obtain ⟨ab, ao, sp⟩ := a
    have hsp : sp = none := h4.1 hds
    subst hsp
    have hb : ab < w.heap.size := hi.fin _ (h4.2.1 hds)
    have hrow : ∀ j u, ds[j]? = some u → w.cell? ⟨ab, ao + j, none⟩ = some u := fun j u hj => by
      have h6 := h4.2.2 j u hj
      unfold Addr.add at h6
      split at h6
      · rename_i e; subst e; exact h6
      · exact h6
    rw [hn, keyK_eq hs']
    exact Kb.key_walk l hs' hlen ab ao cap w (fun j v hj => by
      obtain ⟨k1, k2, k3⟩ := hcells j v hj
      exact ⟨hrow _ _ k1, hrow _ _ k2, hrow _ _ k3⟩) hb

theorem cmpOk (hn : num 139 = 139) (args : List AV) (ob : Ob) (tk : Nat) (R : AV → Ob → Nat → Prop) (h : cmpE args ob tk R) : CallOk Tryz.prog num 139 args ob tk R := by
  obtain ⟨a, b, rfl, hR⟩ := h
  refine callOk_pure (v := .int .i64 (Lib.compareBytes a.data.toList b.data.toList)) (by rw [hn]; exact fun args w => Go.Proofs.enters_of Tryz.func139 (by kernel_rfl) rfl args w) rfl rfl hR ?_
  intro w F β vs hi hr
  obtain ⟨v, r, rfl, hx, hr2⟩ := RCv_cons.1 hr
  obtain ⟨v2, r2, rfl, hx2, hr3⟩ := RCv_cons.1 hr2
  unfold RCv at hr3
  subst hr3
  rw [hx.atom_inv, hx2.atom_inv, hn]
  refine (Tryz.bytealg_CompareString a b w).mono ?_
  rintro e w' ⟨rfl, rfl⟩
  exact ⟨rfl, Below.refl _ _⟩
end Go.Fw
