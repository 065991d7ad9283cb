import Derived.Test.YtniofejaoleipaaGreatDoorFwOpd
/-
  What one operation of the program is shown to do.
-/
namespace Go.Fw
variable [YI]

/-- Generations and blocks that are new. -/
structure Tail (w : World) (β : Beta) (ob : Ob) (β' : Beta) (ob' : Ob) (tg : Nat) : Prop where
  gen : ∀ p g x, β' p g = some x → β p g = some x ∨ g = tg
  live : ∀ b, liveB β' ob' b → liveB β ob b ∨ w.heap.size ≤ b

omit [YI] in
theorem Tail.same {w : World} {β : Beta} {ob : Ob} {tg : Nat} : Tail w β ob β ob tg := ⟨fun _ _ _ h => .inl h, fun _ h => .inl h⟩

/-- The operation runs, and the state behind it is held by ob'. tg: the generation that new objects may have. -/
def OpOk (P : Program) (num : Nat → FuncId) (o : Oper) (act : Act) (w : World) (F : Nat → Prop) (β : Beta) (ob ob' : Ob) (tg : Nat) (a : AV) : Prop :=
  ∃ v w' F' β', ((execOp act.eval o).run P w = .ok (.value v) w' ∨ ((execOp act.eval o).run P w = .ok .skip w' ∧ v = undef)) ∧
    Later w F β w' F' β' ∧ Chg w F (liveB β ob) w' F' ∧ Inv num w' F' β' ob' ∧ RX num w' F' β' a v ∧
    Tail w β ob β' ob' tg

section
variable {P : Program} {num : Nat → FuncId} {o : Oper} {act : Act} {w : World} {F : Nat → Prop} {β : Beta} {ob : Ob} {tg : Nat} {a : AV}

/-- Nothing changes but the value. -/
theorem OpOk.pure {v : Value} (hi : Inv num w F β ob) (hr : (execOp act.eval o).run P w = .ok (.value v) w) (hx : RX num w F β a v) : OpOk P num o act w F β ob ob tg a :=
  ⟨v, w, F, β, .inl hr, Later.refl _ _ _, Chg.refl _ _ _, hi, hx, .same⟩

omit [YI] in
theorem blkSize_alloc (w : World) (x : Obj) (b m : Nat) (h : blkSize w b = some m) : blkSize (w.alloc x) b = some m := by
  have hb : b < w.heap.size := by
    unfold blkSize at h
    split at h
    · rename_i hh; exact (Array.getElem?_eq_some_iff.1 hh).1
    · cases h
  unfold blkSize
  rw [heap_alloc_old w x b hb]
  exact h

omit [YI] in
/-- A new block that is never written again. -/
theorem later_alloc (hF : ∀ b, F b → b < w.heap.size) (x : Obj) : Later w F β (w.alloc x) (fun b => F b ∨ b = w.heap.size) β :=
  ⟨fun _ h => .inl h, fun b hb => heap_alloc_old w x b (hF b hb), fun b m h => blkSize_alloc w x b m h, fun _ _ _ h => h⟩

omit [YI] in
theorem chg_alloc (x : Obj) (M : Nat → Prop) : Chg w F M (w.alloc x) (fun b => F b ∨ b = w.heap.size) :=
  ⟨rfl, rfl, rfl, by simp, fun b hb _ => heap_alloc_old w x b hb, fun b h => h.elim .inl fun e => .inr (.inr (Nat.le_of_eq e.symm))⟩

theorem inv_alloc (hi : Inv num w F β ob) (x : Obj) : Inv num (w.alloc x) (fun b => F b ∨ b = w.heap.size) β ob := by
  refine hi.later (later_alloc hi.fin x) (fun b h => ?_) fun b hb => ?_
  · show b < (w.heap.push x).size
    rw [Array.size_push]
    rcases h with h | h
    · have := hi.fin b h; omega
    · omega
  obtain ⟨p, g, o, h1, h2⟩ := hb
  have := hi.own p g o b h1 h2
  refine ⟨heap_alloc_old w x b this.2, fun h => ?_, ?_⟩
  · rcases h with h | h
    · exact this.1 h
    · omega
  · show b < (w.heap.push x).size
    rw [Array.size_push]
    omega

omit [YI] in
/-- The cells of a new row. -/
theorem row_alloc (cs : Array Value) (e : TypeId) : Row (w.alloc (.cells cs e)) (fun b => F b ∨ b = w.heap.size) ⟨w.heap.size, 0, none⟩ cs.toList := by
  refine ⟨fun _ => rfl, fun _ => .inr rfl, fun j u hj => ?_⟩
  have hadd : (⟨w.heap.size, 0, none⟩ : Addr).add j = ⟨w.heap.size, j, none⟩ := by unfold Addr.add; split <;> simp_all
  rw [hadd, cell_of_row _ _ j cs e (0, 0) (heap_alloc_new w _)]
  simpa using hj
end
end Go.Fw
