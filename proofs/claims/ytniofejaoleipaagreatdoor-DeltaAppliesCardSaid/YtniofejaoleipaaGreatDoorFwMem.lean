import Derived.Test.YtniofejaoleipaaGreatDoorFwAddr
/-
  Reading memory.
-/
namespace Go.Fw
variable [YI]
section
variable {P : Program} {num : Nat → FuncId} {w : World} {F : Nat → Prop} {β : Beta}

omit [YI] in
theorem RCf_len : ∀ (ss : List Nat) (fs : List AV) (cs : List Value), RCf num w F β ss fs cs → cs.length = sumN ss
  | [], [], cs, h => by unfold RCf at h; subst h; rfl
  | n :: ss, f :: fs, cs, h => by
    unfold RCf at h
    obtain ⟨c1, c2, rfl, h2, _, h4⟩ := h
    rw [List.length_append, h2, RCf_len ss fs c2 h4]
    rfl
  | [], _ :: _, _, h => by unfold RCf at h; exact h.elim
  | _ :: _, [], _, h => by unfold RCf at h; exact h.elim

omit [YI] in
theorem RC_len (a : AV) (cs : List Value) (h : RC num w F β a cs) : cs.length = a.size := by
  cases a with
  | agg ss fs => unfold RC at h; exact RCf_len ss fs cs h
  | v x => unfold RC at h; rw [h.1]; rfl
  | sl k xs => unfold RC at h; rcases h with ⟨h, _⟩ | ⟨_, _, _, h, _⟩ <;> (rw [h]; rfl)
  | tup => unfold RC at h; rw [h]; rfl
  | fn => unfold RC at h; obtain ⟨_, h, _⟩ := h; rw [h]; rfl
  | cptr => unfold RC at h; obtain ⟨_, _, h, _⟩ := h; rw [h]; rfl
  | ptr => unfold RC at h; obtain ⟨_, _, h⟩ := h; rw [h]; rfl
  | own => unfold RC at h; rcases h with ⟨_, _, h, _⟩ | ⟨_, _, _, _, h, _⟩ <;> (rw [h]; rfl)
  | mp => unfold RC at h; obtain ⟨_, _, h⟩ := h; rw [h]; rfl
  | yl => unfold RC at h; obtain ⟨_, _, h⟩ := h; rw [h]; rfl
  | nil => unfold RC at h; rw [h]; rfl
  | e0 => unfold RC at h; obtain ⟨_, _, h⟩ := h; rw [h]; rfl
  | und => unfold RC at h; rw [h]; rfl

omit [YI] in
/-- Cells, as a value of a type. -/
theorem RX.of_cells {a : AV} {cs : List Value} {n : Nat} {ag : Bool} (h : RC num w F β a cs) (hf : a.fits n ag = true) (hn : 0 < n) :
    cs.length = n ∧ (ag = true → RX num w F β a (.agg cs.toArray)) ∧ (ag = false → n = 1 ∧ ∃ v, cs = [v] ∧ RX num w F β a v) := by
  simp only [AV.fits, Bool.and_eq_true, decide_eq_true_eq, beq_iff_eq] at hf
  obtain ⟨h1, h2⟩ := hf
  refine ⟨(RC_len a cs h).trans h1, fun e => ?_, fun e => ?_⟩
  · subst e
    cases a <;> simp [AV.isAgg] at h2
    exact ⟨cs.toArray, .inl ⟨rfl, rfl⟩, h⟩
  · subst e
    have hs : cs.length = 1 := by
      rw [RC_len a cs h]
      cases a <;> simp [AV.isAgg] at h2 <;> first | rfl | (simp [AV.size] at h1; omega)
    obtain ⟨v, rfl⟩ := List.length_eq_one_iff.1 hs
    exact ⟨by rw [← h1, ← RC_len a _ h]; rfl, v, rfl, RX.of_single h h2⟩

/-- The program's type: cells, and is it a struct? -/
def tyOk (P : Program) (t : TypeId) (n : Nat) (ag : Bool) : Bool :=
  decide ((P.info? t).map (·.size) = some n) && decide (0 < n) && (match P.underlying t with
    | some (.struct _) | some (.array _ _) => ag
    | some _ => !ag
    | none => false)

omit [YI] in
theorem loadVar_run {t : TypeId} {n : Nat} {ag : Bool} (ht : tyOk P t n ag = true) {a : AV} {cs : List Value} {ad : Addr} (h : RC num w F β a cs) (hf : a.fits n ag = true)
    (hr : ∀ j u, cs[j]? = some u → w.cell? (ad.add j) = some u) : ∃ v, (loadVar t ad).run P w = .ok v w ∧ RX num w F β a v := by
  simp only [tyOk, Bool.and_eq_true, decide_eq_true_eq] at ht
  obtain ⟨⟨hs, hpos⟩, hk⟩ := ht
  obtain ⟨h1, h2, h3⟩ := RX.of_cells h hf hpos
  obtain ⟨info, hinfo, hsz⟩ := Option.map_eq_some_iff.1 hs
  have hl := run_loadCells_list (P := P) w ad cs hr
  rw [h1] at hl
  split at hk
  · rename_i d
    subst hk
    exact ⟨_, by simp [loadVar, isAgg, run_underlying d, sizeOf, typeInfo, hinfo, hsz, hl], h2 rfl⟩
  · rename_i d
    subst hk
    exact ⟨_, by simp [loadVar, isAgg, run_underlying d, sizeOf, typeInfo, hinfo, hsz, hl], h2 rfl⟩
  · rename_i d hn1 hn2 hd
    have : ag = false := by simpa using hk
    subst this
    obtain ⟨_, v, rfl, hv⟩ := h3 rfl
    have hc := hr 0 v rfl
    have hc' : w.cell? ad = some v := by simpa [Addr.add] using hc
    refine ⟨v, ?_, hv⟩
    have hag : (isAgg t).run P w = .ok false w := by
      simp only [isAgg, Sem.run_bind, run_underlying hd, Result.andThen_ok]
      cases d <;> first | rfl | exact (hn1 _ rfl).elim | exact (hn2 _ _ rfl).elim
    simp only [loadVar, Sem.run_bind, hag, Result.andThen_ok]
    simp [load, Sem.run, hc']
  · cases hk

omit [YI] in
theorem at_cells : ∀ (path : List Nat) (a : AV) (n off : Nat) (x : AV) (cs : List Value), a.at path n = some (off, x) → RC num w F β a cs →
    ∃ pre c post, cs = pre ++ c ++ post ∧ off = n + pre.length ∧ RC num w F β x c
  | [], a, n, off, x, cs, h, hr => by
    unfold AV.at at h
    cases h
    exact ⟨[], cs, [], by simp, by simp, hr⟩
  | i :: r, a, n, off, x, cs, h, hr => by
    unfold AV.at at h
    split at h
    · rename_i ss fs
      split at h
      · rename_i f hf
        unfold RC at hr
        obtain ⟨pre, c, post, rfl, h2, h3, _⟩ := RCf_get _ _ _ _ _ hr hf
        obtain ⟨pre', c', post', rfl, h5, h6⟩ := at_cells r f _ off x c h h3
        exact ⟨pre ++ pre', c', post' ++ post, by simp, by rw [h5, List.length_append, h2]; omega, h6⟩
      · cases h
    · cases h

omit [YI] in
theorem cell_row {b : Nat} {c : Array Value} {e : TypeId} {fr : Nat × Nat} (h : w.heap[b]? = some (.cells c e fr)) (n : Nat) : w.cell? ⟨b, n, none⟩ = c.toList[n]? := by
  rw [cell_of_row w b n c e fr h]
  simp

theorem obj_at {b : Nat} {o : AObj} {path : List Nat} {off : Nat} {x : AV} (ho : ORep num w F β (some b) o) (h : o.at path = some (off, x)) :
    ∃ c, RC num w F β x c ∧ ∀ j u, c[j]? = some u → w.cell? (({ block := b, off := off } : Addr).add j) = some u := by
  unfold AObj.at at h
  split at h
  · rename_i y
    unfold ORep at ho
    obtain ⟨c, e, hh, hc⟩ := ho
    rcases hc with hc | hc
    case inr =>
      cases path with
      | cons i r => rcases hc with rfl | ⟨as, rfl⟩ <;> (unfold AV.at at h; cases h)
      | nil =>
        unfold AV.at at h
        cases h
        refine ⟨[], ?_, by simp⟩
        rcases hc with rfl | ⟨as, rfl⟩ <;> (unfold RC; rfl)
    obtain ⟨pre, d, post, h1, h2, h3⟩ := at_cells _ _ _ _ _ _ h hc
    refine ⟨d, h3, fun j u hj => ?_⟩
    rw [add_plain rfl, cell_row hh, h1]
    show (pre ++ d ++ post)[off + j]? = some u
    have hlt : j < d.length := (List.getElem?_eq_some_iff.1 hj).1
    rw [List.append_assoc, List.getElem?_append_right (by omega), List.getElem?_append_left (by omega), ← hj]
    congr 1
    omega
  · rename_i k xs i r
    split at h
    · rename_i y hy
      unfold ORep at ho
      obtain ⟨c, e, cs, rest, hh, hc, h0⟩ := ho
      obtain ⟨pre, d, post, rfl, h2, h3, _⟩ := RCk_get _ _ _ _ _ hc hy
      obtain ⟨pre', d', post', rfl, h5, h6⟩ := at_cells _ _ _ _ _ _ h h3
      refine ⟨d', h6, fun j u hj => ?_⟩
      rw [add_plain rfl, cell_row hh, h0]
      show (pre ++ (pre' ++ d' ++ post') ++ post ++ rest)[off + j]? = some u
      have hlt : j < d'.length := (List.getElem?_eq_some_iff.1 hj).1
      have e1 : pre ++ (pre' ++ d' ++ post') ++ post ++ rest = (pre ++ pre') ++ (d' ++ (post' ++ post ++ rest)) := by simp
      rw [e1, List.getElem?_append_right (by simp; omega), List.getElem?_append_left (by simp; omega), ← hj]
      congr 1
      simp
      omega
    · cases h
  · cases h

theorem loadV_run {t : TypeId} {n : Nat} {ag : Bool} (ht : tyOk P t n ag = true) {ob : Ob} (hi : Inv num w F β ob) (a r : AV) (x : Value) (ha : RX num w F β a x)
    (h : (loadV n ag a).run ob = some r) : ∃ v, (Instr.loadAt t x).run P w = .ok v w ∧ RX num w F β r v := by
  unfold loadV at h
  split at h
  · rename_i y
    split at h
    · rename_i hf
      cases h
      have h1 := ha.single (by simp) (by simp) rfl
      unfold RC at h1
      obtain ⟨ad, ds, hx, hr, hc⟩ := h1
      simp only [List.cons.injEq, and_true] at hx
      subst hx
      obtain ⟨v, hv, hv'⟩ := loadVar_run (P := P) ht hc hf hr.2.2
      exact ⟨v, by simp [Instr.loadAt, Instr.sureAddr, hv], hv'⟩
    · cases h
  · rename_i p g path off
    have h1 := ha.single (by simp) (by simp) rfl
    unfold RC at h1
    obtain ⟨b, hb, hx⟩ := h1
    simp only [List.cons.injEq, and_true] at hx
    subst hx
    unfold MO.run at h
    split at h
    · rename_i g' o hl
      split at h
      · rename_i hg
        subst hg
        obtain ⟨x, hx, ho⟩ := hi.rep p g o hl
        rw [hb] at hx
        cases hx
        dsimp only at h
        cases hq : o.at path with
        | none => rw [hq] at h; cases h
        | some q =>
          rw [hq] at h
          simp only [opt_some] at h
          split at h
          · rename_i hc
            cases h
            obtain ⟨c, h3, h4⟩ := obj_at ho (show o.at path = some (q.1, q.2) from hq)
            rw [hc.1] at h4
            obtain ⟨v, hv, hv'⟩ := loadVar_run (P := P) ht h3 hc.2 h4
            exact ⟨v, by simp [Instr.loadAt, Instr.sureAddr, hv], hv'⟩
          · cases h
      · cases h
    · cases h
  · cases h
end
end Go.Fw
