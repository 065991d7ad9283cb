import Derived.Test.YtniofejaoleipaaGreatDoorFwObj
/-
  append.
-/
namespace Go.Fw
variable [YI]
section
variable {P : Program} {num : Nat → FuncId} {w : World} {F : Nat → Prop} {β : Beta} {ob : Ob} {tg : Nat}

/-- What is appended. -/
structure ArgIs (P : Program) (w : World) (k : Nat) (v : Value) (m : Nat) (news : List Value) : Prop where
  len : ∀ w', (Builtin.lenOf v).run P w' = .ok m w'
  cells : ∀ w' : World, w'.heap = w.heap → (Builtin.firstCells k m v).run P w' = .ok news.toArray w'
  size : news.length = m * k

omit [YI] in
theorem RCk_len (k : Nat) : ∀ (xs : List AV) (cs : List Value), RCk num w F β k xs cs → cs.length = xs.length * k
  | [], cs, h => by unfold RCk at h; subst h; simp
  | x :: xs, cs, h => by
    unfold RCk at h
    obtain ⟨c1, c2, rfl, h2, _, h4⟩ := h
    rw [List.length_append, h2, RCk_len k xs c2 h4, List.length_cons, Nat.succ_mul, Nat.add_comm]

omit [YI] in
theorem MO.bind_run {α γ : Type} (f : α → MO γ) : ∀ (x : MO α), (x.bind f).run ob = match x.run ob with | some a => (f a).run ob | none => none
  | .ret a => rfl
  | .fail => rfl
  | .abs p k => by
    show (MO.abs p (k.bind f)).run ob = _
    simp only [MO.run]
    split
    · rfl
    · exact MO.bind_run f k
  | .get p g k => by
    show (MO.get p g fun o => (k o).bind f).run ob = _
    simp only [MO.run]
    split
    · split
      · exact MO.bind_run f _
      · rfl
    · rfl

omit [YI] in
theorem MO.get_run {α : Type} {p g : Nat} {k : AObj → MO α} {r : α} (h : (MO.get p g k).run ob = some r) : ∃ o, lk ob p = some (g, o) ∧ (k o).run ob = some r := by
  simp only [MO.run] at h
  split at h
  · rename_i g' o hl
    split at h
    · rename_i he; subst he; exact ⟨o, hl, h⟩
    · cases h
  · cases h

omit [YI] in
/-- The cells of a slice's elements. -/
theorem ArgIs.slice {k m cap : Nat} {a : Addr} {news : List Value} (hl : news.length = m * k) (hr : ∀ j u, news[j]? = some u → w.cell? (a.add j) = some u) : ArgIs P w k (.slice (some a) m cap) m news :=
  ⟨fun w' => rfl, fun w' hw => run_firstCells_some w' k m a m cap news hl (fun j u hj => by rw [World.cell?_of_block (w := w) (by rw [hw])]; exact hr j u hj), hl⟩

omit [YI] in
theorem ArgIs.empty {k cap : Nat} {y : Option Addr} : ArgIs P w k (.slice y 0 cap) 0 [] := by
  refine ⟨fun w' => rfl, fun w' _ => ?_, by simp⟩
  cases y with
  | none => rfl
  | some a => exact run_firstCells_some w' k 0 a 0 cap [] (by simp) (by simp)

theorem elems_run {k : Nat} (hi : Inv num w F β ob) {b : AV} {v : Value} {ys : List AV} (hb : RX num w F β b v) (h : (b.elems k).run ob = some ys) :
    ∃ news, ArgIs P w k v ys.length news ∧ RCk num w F β k ys news := by
  unfold AV.elems at h
  split at h
  · cases h
    rw [hb.nil_inv]
    exact ⟨[], .empty, by unfold RCk; rfl⟩
  · cases h
    obtain ⟨a, _, rfl⟩ := hb.e0_inv
    exact ⟨[], .empty, by unfold RCk; rfl⟩
  · rename_i k' xs
    split at h
    · rename_i he
      subst he
      cases h
      rcases hb.sl_inv with ⟨rfl, rfl⟩ | ⟨a, cap, ds, rfl, _, hr, hc⟩
      · exact ⟨[], .empty, by unfold RCk; rfl⟩
      · exact ⟨ds, .slice (RCk_len _ _ _ hc) hr.2.2, hc⟩
    · split at h
      · rename_i h0
        cases h
        rcases hb.sl_inv with ⟨rfl, rfl⟩ | ⟨a, cap, ds, rfl, _, hr, hc⟩
        · exact ⟨[], .empty, by unfold RCk; rfl⟩
        · rw [h0]; exact ⟨[], .empty, by unfold RCk; rfl⟩
      · cases h
  · rename_i p g j off n
    have hget := MO.get_run h
    clear h
    obtain ⟨o, hl, h⟩ := hget
    split at h
    · rename_i k' xs
      split at h
      · rename_i hc
        obtain ⟨rfl, rfl, hlen⟩ := hc
        cases h
        have hys : ((xs.drop off).take n).length = n := by simp; omega
        rw [hys]
        rcases hb.own_inv with ⟨y, _, rfl, rfl⟩ | ⟨blk, cap, m, hbk, rfl, hcap, hmax, hsz, hfit⟩
        · exact ⟨[], .empty, by simp; unfold RCk; rfl⟩
        · obtain ⟨x, hx, ho⟩ := hi.rep p g _ hl
          rw [hbk] at hx
          cases hx
          unfold ORep at ho
          obtain ⟨c, e, cs, rest, hh, hr, hcs⟩ := ho
          obtain ⟨c1, c2, rfl, h1, h2, h3⟩ := RCk_take _ xs cs off hr
          obtain ⟨d1, d2, rfl, h4, h5, h6⟩ := RCk_take _ (xs.drop off) c2 n h3
          refine ⟨d1, .slice (by rw [h4, List.length_drop, Nat.min_eq_left (by omega)]) fun i u hj => ?_, h5⟩
          rw [add_plain rfl, cell_row hh, hcs]
          have hlt : i < d1.length := (List.getElem?_eq_some_iff.1 hj).1
          have ho : c1.length = off * j := by rw [h1, Nat.min_eq_left (by omega)]
          rw [List.append_assoc, List.getElem?_append_right (by rw [ho]; show off * j ≤ off * j + i; omega), List.append_assoc, List.getElem?_append_left (by rw [ho]; show off * j + i - off * j < _; omega), ← hj]
          congr 1
          rw [ho]
          show off * j + i - off * j = i
          omega
      · cases h
    · cases h
  · cases h

theorem appElems_run {k : Nat} (hi : Inv num w F β ob) {b : AV} {v : Value} {ys : List AV} (hb : RX num w F β b v) (h : (b.appElems k).run ob = some ys) :
    ∃ news, ArgIs P w k v ys.length news ∧ RCk num w F β k ys news := by
  unfold AV.appElems at h
  split at h
  · rename_i s
    split at h
    · rename_i hk
      subst hk
      cases h
      have := hb.atom_inv
      subst this
      have hsz : (s.data.toList.map fun c => AV.v (.int .u8 c.toNat)).length = s.size := by simp
      rw [hsz]
      refine ⟨(s.data.map fun c => Value.int .u8 c.toNat).toList, ⟨fun w' => rfl, fun w' _ => ?_, by simp⟩, ?_⟩
      · have : s.extract 0 s.size = s := by
          apply ByteArray.ext
          simp
        simp only [Builtin.firstCells, this]
        rfl
      · rw [Array.toList_map]
        generalize s.data.toList = l
        induction l with
        | nil => simp; unfold RCk; rfl
        | cons c l ih =>
          simp only [List.map_cons]
          unfold RCk
          exact ⟨[_], _, rfl, rfl, by unfold RC; exact ⟨rfl, rfl⟩, ih⟩
    · cases h
  · exact elems_run hi hb h

/-- No count of elements. -/
def notInt (P : Program) (u : TypeId) : Bool :=
  match P.underlying u with
  | some (.int _) => false
  | some _ => true
  | none => false

omit [YI] in
theorem append_head {u : TypeId} (hu : notInt P u = true) : ∃ d, P.underlying u = some d ∧ ∀ k, d = .int k → False := by
  unfold notInt at hu
  cases h : P.underlying u with
  | none => rw [h] at hu; cases hu
  | some d => exact ⟨d, rfl, fun k e => by rw [h, e] at hu; cases hu⟩

omit [YI] in
theorem append_grow {t u ty e : TypeId} {it : TypeInfo} {zv : Value} {k n m cap : Nat} {base : Option Addr} {v : Value} {olds news : List Value} (h1 : P.underlying t = some (.slice e)) (h2 : P.info? e = some it) (h3 : it.zero = some zv)
    (h4 : it.size = k) (hu : notInt P u = true) (ho : ArgIs P w k (.slice base n cap) n olds) (hv : ArgIs P w k v m news) (hg : cap < n + m) (hb : (n + m) * it.bytes ≤ 140737488355328) (hm : n + m ≤ 140737488355328) :
    (Builtin.append_ #[t, u] ty #[.slice base n cap, v]).run P w = .ok (.slice (some ⟨w.heap.size, 0, none⟩) (n + m) (grownCap w (n + m) cap e))
      (w.drew.alloc (.cells (olds.toArray ++ news.toArray ++ Builtin.zeroCells zv.cells (grownCap w (n + m) cap e - (n + m))) e)) := by
  obtain ⟨d, hd, hnd⟩ := append_head hu
  have hn : ¬ (n + m ≤ cap) := by omega
  have h63' : ¬ (9223372036854775807 < ((n : Int) + (m : Int))) := by omega
  have h48' : ¬ (281474976710656 < Builtin.nextslicecap (n + m) cap * it.bytes) := by have := growslice_fits (by omega : cap < n + m) hb; omega
  have c1 := ho.cells w.drew rfl
  have c2 := hv.cells w.drew rfl
  subst h4
  simp [Builtin.append_, run_underlying h1, run_underlying hd, sizeOf, typeInfo, zeroValue, h2, h3, hv.len, hn, h63', h48', Question.forced, c1, c2, newRow, grownCap, hnd]
  congr 2
  apply Array.ext'
  simp

omit [YI] in
theorem append_room {t u ty e : TypeId} {it : TypeInfo} {k n m cap : Nat} {base : Option Addr} {v : Value} {news : List Value} {w' : World} (h1 : P.underlying t = some (.slice e)) (h2 : P.info? e = some it)
    (h4 : it.size = k) (hu : notInt P u = true) (hv : ArgIs P w k v m news) (hg : n + m ≤ cap) (hst : match base with | some a => (storeCells (a.add (n * k)) news).run P w = .ok () w' | none => w' = w) :
    (Builtin.append_ #[t, u] ty #[.slice base n cap, v]).run P w = .ok (.slice base (n + m) cap) w' := by
  obtain ⟨d, hd, hnd⟩ := append_head hu
  have c2 := hv.cells w rfl
  subst h4
  cases base with
  | none =>
    cases hst
    simp [Builtin.append_, run_underlying h1, run_underlying hd, sizeOf, typeInfo, h2, hv.len, hg, c2, hnd]
  | some a =>
    simp [Builtin.append_, run_underlying h1, run_underlying hd, sizeOf, typeInfo, h2, hv.len, hg, c2, hst, hnd]

omit [YI] in
theorem zeroCells_len (z : Array Value) (n : Nat) : (Builtin.zeroCells z n).size = n * z.size := size_zeroCells z n

omit [YI] in
/-- append to a slice without room, into a new block. -/
theorem app_new {t u ty : TypeId} {k : Nat} {n m cap : Nat} {base : Option Addr} {v : Value} {olds news : List Value} (he : elSz P t k = true) {lim : Nat} (hlim : limOk P t lim = true) (hm : n + m ≤ lim)
    (hu : notInt P u = true) (ho : ArgIs P w k (.slice base n cap) n olds) (hv : ArgIs P w k v m news) (hg : cap < n + m) :
    ∃ (e : TypeId) (cells : Array Value) (rest : List Value) (nc : Nat), (Builtin.append_ #[t, u] ty #[.slice base n cap, v]).run P w = .ok (.slice (some ⟨w.heap.size, 0, none⟩) (n + m) nc) (w.drew.alloc (.cells cells e)) ∧
      cells.toList = olds ++ news ++ rest ∧ n + m ≤ nc ∧ nc ≤ maxLen ∧ nc * k ≤ cells.size := by
  obtain ⟨e, it, zv, h1, h2, h3, h4, h5, h6⟩ := elSz_spec he
  obtain ⟨b1, b2⟩ := limOk_spec hlim h1 h2 hm
  have hge := grownCap_ge w (n + m) cap e
  refine ⟨e, _, _, _, append_grow h1 h2 h3 h4 hu ho hv hg b1 b2, by simp; rfl, hge, grownCap_le_maxLen w _ _ _ (by simp only [maxLen]; omega), ?_⟩
  simp only [Array.size_append, List.size_toArray, zeroCells_len, h6, ho.size, hv.size, ← Nat.add_mul]
  apply Nat.mul_le_mul_right
  omega
end
end Go.Fw
