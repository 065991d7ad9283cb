import Derived.Test.YtniofejaoleipaaGreatDoorFwFun
import Derived.Test.YtniofejaoleipaaGreatDoorFwData
import Derived.ProofKit
/-
  An argument that reads as data, as an abstract value.
-/
namespace Go.Fw
open Go.RowKit
section
variable {H : Type} {enc : TypeId × Value → H} {P : Program} {w : World} {base : Nat} {sp : Nat → Bool} {held : Bool} {num : Nat → FuncId} {β : Beta}

/-- All that lies below. -/
def allF (w : World) : Nat → Prop := fun b => b < w.heap.size

theorem cells_of {a : Addr} {n : Nat} {cs : List Value} (h : w.cells? base a n = some cs) : cs.length = n ∧ ∀ j, j < n → w.cell? (a.add j) = cs[j]? := by
  unfold World.cells? at h
  split at h
  · have hl := mapM_some_length h
    refine ⟨by simpa using hl, fun j hj => ?_⟩
    have := mapM_some_get h j j (by simp [hj])
    exact this
  · cases h

theorem add_add (a : Addr) (i j : Nat) : (a.add i).add j = a.add (i + j) := by
  obtain ⟨b, o, s⟩ := a
  unfold Addr.add
  by_cases hi : i = 0
  · subst hi; simp
  · by_cases hj : j = 0
    · subst hj; simp [hi]
    · have : i + j ≠ 0 := by omega
      simp [hi, hj, this, Nat.add_assoc]
theorem cell_spot {a : Addr} {v : Value} (h : w.cell? a = some v) : a.spot = none ∧ a.block < w.heap.size := by
  unfold World.cell? at h
  split at h
  · rename_i hb
    split at h
    · cases h
    · rename_i hs
      exact ⟨by simpa using hs, (Array.getElem?_eq_some_iff.1 hb).1⟩
  · cases h

/-- A reading of a type is of this shape. -/
def OpensAs (enc : TypeId × Value → H) (P : Program) (w : World) (base : Nat) (sp : Nat → Bool) (held : Bool) (num : Nat → FuncId) (β : Beta) {α : Type} (t : TypeId) (k : Nat) (f : α → AV) : Prop :=
  ∀ (n : Nat) (cs : List Value) (x : DataW H × List MemPlace), DataW.trod enc P w base sp held n t cs = some x → ∃ a : α, RC num w (allF w) β (f a) cs ∧ cs.length = k

theorem opens_slice {α : Type} {t e : TypeId} {k : Nat} {f : α → AV} (ht : P.underlying t = some (.slice e)) (hc : P.cellsOf e = k) (hk : 0 < k) (he : OpensAs enc P w base sp held num β e k f)
    {n : Nat} {cs : List Value} {x : DataW H × List MemPlace} (h : DataW.trod enc P w base sp held n t cs = some x) :
    ∃ l : List α, RC num w (allF w) β (.sl k (l.map f)) cs ∧ cs.length = 1 ∧ ((l = [] ∧ x.1 = .nil) ∨ ∃ el rest, x.1 = .slice el rest ∧ el.length = l.length) := by
  rcases DataW.trod_slice ht h with ⟨rfl, rfl⟩ | ⟨a, len, cap, elems, rest, m, _, rfl, rfl, hb, hl, hm, hlen, hel, _, _⟩
  · exact ⟨[], by unfold RC; exact .inl ⟨rfl, rfl⟩, rfl, .inl ⟨rfl, rfl⟩⟩
  · rw [hc] at hel
    -- each element
    have each : ∀ i, i < len → ∃ (a' : α) (ci : List Value), w.cells? base (a.add (i * k)) k = some ci ∧ RC num w (allF w) β (f a') ci ∧ ci.length = k := by
      intro i hi
      have h1 := hel i hi
      rw [List.getElem?_eq_getElem (by omega)] at h1
      obtain ⟨ci, h2, h3⟩ := Option.bind_eq_some_iff.1 h1
      obtain ⟨a', h4, h5⟩ := he _ _ _ h3
      exact ⟨a', ci, h2, h4, h5⟩
    -- the first len elements as a row
    have rows : ∀ m, m ≤ len → ∃ (l : List α) (ds : List Value), l.length = m ∧ ds.length = m * k ∧ RCk num w (allF w) β k (l.map f) ds ∧ ∀ j u, ds[j]? = some u → w.cell? (a.add j) = some u := by
      intro m
      induction m with
      | zero => intro _; exact ⟨[], [], rfl, by simp, by unfold RCk; rfl, by simp⟩
      | succ m ih =>
        intro hm
        obtain ⟨l, ds, h1, h2, h3, h4⟩ := ih (by omega)
        obtain ⟨a', ci, h5, h6, h7⟩ := each m (by omega)
        obtain ⟨h8, h9⟩ := cells_of h5
        refine ⟨l ++ [a'], ds ++ ci, by simp [h1], by simp [h2, h7, Nat.add_mul], ?_, fun j u hj => ?_⟩
        · rw [List.map_append]
          have key : ∀ (xs : List AV) (d : List Value), RCk num w (allF w) β k xs d → RCk num w (allF w) β k (xs ++ [f a']) (d ++ ci) := by
            intro xs
            induction xs with
            | nil =>
              intro d hd
              unfold RCk at hd
              subst hd
              simp only [List.nil_append]
              unfold RCk
              exact ⟨ci, [], by simp, h7, h6, by unfold RCk; rfl⟩
            | cons x xs ihx =>
              intro d hd
              unfold RCk at hd
              obtain ⟨c1, c2, rfl, k1, k2, k3⟩ := hd
              rw [List.cons_append, List.append_assoc]
              unfold RCk
              exact ⟨c1, c2 ++ ci, rfl, k1, k2, ihx c2 k3⟩
          exact key _ _ h3
        · by_cases hlt : j < ds.length
          · rw [List.getElem?_append_left hlt] at hj
            exact h4 j u hj
          · rw [List.getElem?_append_right (by omega)] at hj
            have hlt2 : j - ds.length < k := by
              have := (List.getElem?_eq_some_iff.1 hj).1
              omega
            have h10 := h9 (j - ds.length) hlt2
            rw [hj, add_add] at h10
            rw [← h10, h2]
            congr 2
            omega
    obtain ⟨l, ds, h1, h2, h3, h4⟩ := rows len (Nat.le_refl _)
    have hfirst : ds ≠ [] → a.spot = none ∧ a.block < w.heap.size := by
      intro hne
      have h0 : 0 < ds.length := List.length_pos_iff.2 hne
      have := h4 0 ds[0] (List.getElem?_eq_getElem h0)
      have h5 := cell_spot this
      simpa [Addr.add] using h5
    refine ⟨l, ?_, rfl, .inr ⟨_, _, rfl, by simp [hlen, h1]⟩⟩
    unfold RC
    refine .inr ⟨a, cap, ds, by simp [h1], by simp [h1]; exact hl, ⟨fun hne => (hfirst hne).1, fun hne => (hfirst hne).2, h4⟩, h3⟩

theorem opens_int {t : TypeId} (ht : P.underlying t = some (.int .i64)) : OpensAs enc P w base sp held num β t 1 (fun n : Int => AV.i n) := by
  intro n cs x h
  obtain ⟨m, rfl, _, _⟩ := DataW.trod_int ht h
  exact ⟨m, by unfold RC; exact ⟨rfl, rfl⟩, rfl⟩
theorem opens_str {t : TypeId} (ht : P.underlying t = some .string) : OpensAs enc P w base sp held num β t 1 (fun s : ByteArray => AV.str s) := by
  intro n cs x h
  obtain ⟨s, rfl, _, _⟩ := DataW.trod_string ht h
  exact ⟨s, by unfold RC; exact ⟨rfl, rfl⟩, rfl⟩
theorem opens_sl {α : Type} {t e : TypeId} {k : Nat} {f : α → AV} (ht : P.underlying t = some (.slice e)) (hc : P.cellsOf e = k) (hk : 0 < k) (he : OpensAs enc P w base sp held num β e k f) :
    OpensAs enc P w base sp held num β t 1 (fun l : List α => AV.sl k (l.map f)) := by
  intro n cs x h
  obtain ⟨l, h1, h2, _⟩ := opens_slice ht hc hk he h
  exact ⟨l, h1, h2⟩


theorem part_of {t : TypeId} {fs : Array Field} (ht : P.underlying t = some (.struct fs)) {n : Nat} {cs : List Value} {x : DataW H × List MemPlace} (h : DataW.trod enc P w base sp held n t cs = some x)
    {α : Type} {f : α → AV} (i : Nat) (fl : Field) {k : Nat} (hf : fs[i]? = some fl) (hk : P.cellsOf fl.type = k) (ho : OpensAs enc P w base sp held num β fl.type k f) : ∃ a : α, RC num w (allF w) β (f a) ((cs.drop fl.offset).take k) := by
  obtain ⟨xs, m, _, _, _, hl, hx⟩ := DataW.trod_struct ht h
  have h1 := hx i fl hf
  have hlt : i < fs.size := (Array.getElem?_eq_some_iff.1 hf).1
  rw [List.getElem?_eq_getElem (by omega), hk] at h1
  obtain ⟨a, h2, _⟩ := ho _ _ _ h1
  exact ⟨a, h2⟩
theorem struct_len {t : TypeId} {fs : Array Field} (ht : P.underlying t = some (.struct fs)) {n : Nat} {cs : List Value} {x : DataW H × List MemPlace} (h : DataW.trod enc P w base sp held n t cs = some x) : cs.length = P.cellsOf t := by
  obtain ⟨_, _, _, _, h1, _⟩ := DataW.trod_struct ht h
  exact h1
theorem rcf_cons {F : Nat → Prop} {n : Nat} {ss : List Nat} {a : AV} {fs : List AV} {cs : List Value} (hl : n ≤ cs.length) (h1 : RC num w F β a (cs.take n)) (h2 : RCf num w F β ss fs (cs.drop n)) : RCf num w F β (n :: ss) (a :: fs) cs := by
  unfold RCf
  exact ⟨cs.take n, cs.drop n, (List.take_append_drop n cs).symm, by simp [hl], h1, h2⟩
theorem rcf_nil {F : Nat → Prop} {cs : List Value} (h : cs = []) : RCf num w F β [] [] cs := by
  unfold RCf
  exact h
end
end Go.Fw
