import Derived.Test.YtniofejaoleipaaGreatDoorFwEq
/-
  Making values and objects.
-/
namespace Go.Fw
variable [YI]
section
variable {P : Program} {num : Nat → FuncId} {w : World} {F : Nat → Prop} {β : Beta} {ob : Ob}

omit [YI] in
theorem fold_set : ∀ (vs : List Value) (j off : Nat) (cs : Array Value) (pre old post : List Value), cs.toList = pre ++ old ++ post → pre.length = off + j → old.length = vs.length →
    ((vs.zipIdx j).foldl (fun (cs : Array Value) (p : Value × Nat) => cs.setIfInBounds (off + p.2) p.1) cs).toList = pre ++ vs ++ post
  | [], j, off, cs, pre, old, post, h, hp, ho => by
    have : old = [] := List.eq_nil_of_length_eq_zero ho
    subst this
    simpa using h
  | v :: vs, j, off, cs, pre, old, post, h, hp, ho => by
    cases old with
    | nil => simp at ho
    | cons o old =>
      rw [List.zipIdx_cons, List.foldl_cons]
      have hs : (cs.setIfInBounds (off + j) v).toList = (pre ++ [v]) ++ old ++ post := by
        rw [Array.toList_setIfInBounds, h, ← hp]
        simp [List.set_append]
      have := fold_set vs (j + 1) off _ (pre ++ [v]) old post hs (by simp; omega) (by simpa using ho)
      rw [this]
      simp

/-- Parts against values. -/
def PRep (num : Nat → FuncId) (w : World) (F : Nat → Prop) (β : Beta) : List (Nat × AV) → List (Nat × Value) → Prop
  | [], [] => True
  | (i, a) :: ps, (j, v) :: vs => i = j ∧ RX num w F β a v ∧ PRep num w F β ps vs
  | _, _ => False

omit [YI] in
theorem fill_run {ss : List Nat} (hpos : ∀ n ∈ ss, 0 < n) {place : Nat → Option (Nat × Nat)} (hpl : ∀ i n, ss[i]? = some n → place i = some (offN ss i, n)) :
    ∀ (ps : List (Nat × AV)) (vs : List (Nat × Value)) (z z' : List AV) (cells : Array Value), PRep num w F β ps vs → RCf num w F β ss z cells.toList → fillV z ps = some z' →
      ∃ cells' : Array Value, Instr.fill place cells vs = some cells' ∧ RCf num w F β ss z' cells'.toList
  | [], [], z, z', cells, _, hz, h => by
    unfold fillV at h
    cases h
    exact ⟨cells, rfl, hz⟩
  | (i, a) :: ps, (j, v) :: vs, z, z', cells, hp, hz, h => by
    obtain ⟨rfl, hx, hp⟩ := hp
    unfold fillV at h
    split at h
    · rename_i old hold
      split at h
      · rename_i hs
        obtain ⟨pre, c, post, e1, e2, e3, e4⟩ := RCf_set _ _ _ _ _ hz hold
        obtain ⟨_, _, _, _, _, _, e5⟩ := RCf_get _ _ _ _ _ hz hold
        have hci : ss[i]? = some c.length := by
          obtain ⟨pre', c', post', f1, f2, f3, f4⟩ := RCf_get _ _ _ _ _ hz hold
          rw [f4, RC_len _ _ f3, RC_len _ _ e3]
        have hc0 : 0 < c.length := hpos _ (List.mem_of_getElem? hci)
        have hold' := RC_len _ _ e3
        have hcx := hx.cells (by omega)
        have hlen := RC_len _ _ hcx
        have hvs : v.cells.size = c.length := by simp at hlen; omega
        have hcell : (v.cells.zipIdx.foldl (fun cs (c, j) => cs.setIfInBounds (offN ss i + j) c) cells).toList = pre ++ v.cells.toList ++ post := by
          rw [← Array.foldl_toList, Array.toList_zipIdx]
          exact fold_set v.cells.toList 0 (offN ss i) cells pre c post e1 (by simpa using e2) (by simp [hvs])
        obtain ⟨cells', g1, g2⟩ := fill_run hpos hpl ps vs (z.set i a) z' _ hp (by rw [hcell]; exact e4 a _ (by simp [hvs]) hcx) h
        refine ⟨cells', ?_, g2⟩
        have hfit : offN ss i + c.length ≤ cells.size := by
          have := congrArg List.length e1
          simp at this
          omega
        unfold Instr.fill
        rw [hpl i _ hci]
        simp only [hvs, ne_eq, not_true_eq_false, decide_false, Bool.false_or, decide_eq_true_eq, gt_iff_lt]
        rw [if_neg (by omega)]
        exact g1
      · cases h
    · cases h
  | [], _ :: _, _, _, _, hp, _, _ => hp.elim
  | _ :: _, [], _, _, _, hp, _, _ => hp.elim

/-- The places of a struct's fields. -/
def placesOk (P : Program) : List Nat → List Field → Nat → Bool
  | [], [], _ => true
  | n :: ss, f :: fs, off => decide (f.offset = off) && decide ((P.info? f.type).map (·.size) = some n) && placesOk P ss fs (off + n)
  | _, _, _ => false

omit [YI] in
theorem placesOk_spec : ∀ (ss : List Nat) (fs : List Field) (off : Nat), placesOk P ss fs off = true →
    ∃ places, fs.mapM (fun f => (P.info? f.type).map fun i => (f.offset, i.size)) = some places ∧ ∀ i n, ss[i]? = some n → places[i]? = some (off + offN ss i, n)
  | [], [], off, _ => ⟨[], rfl, by simp⟩
  | n :: ss, f :: fs, off, h => by
    simp only [placesOk, Bool.and_eq_true, decide_eq_true_eq] at h
    obtain ⟨⟨h1, h2⟩, h3⟩ := h
    obtain ⟨places, h4, h5⟩ := placesOk_spec ss fs (off + n) h3
    obtain ⟨info, hi, hs⟩ := Option.map_eq_some_iff.1 h2
    refine ⟨(off, n) :: places, ?_, fun i m hm => ?_⟩
    · simp [List.mapM_cons, hi, h4, h1, hs]
    · cases i with
      | zero => simp at hm; simp [offN, hm]
      | succ i =>
        simp only [List.getElem?_cons_succ] at hm ⊢
        rw [h5 i m hm]
        simp [offN, Nat.add_assoc]
  | [], _ :: _, _, h => by simp [placesOk] at h
  | _ :: _, [], _, h => by simp [placesOk] at h

omit [YI] in
theorem offN_rep (k : Nat) : ∀ (m i : Nat), i ≤ m → offN (List.replicate m k) i = i * k
  | m, 0, _ => by cases m <;> simp [offN]
  | 0, i + 1, h => by omega
  | m + 1, i + 1, h => by
    rw [List.replicate_succ]
    simp only [offN]
    rw [offN_rep k m i (by omega), Nat.succ_mul, Nat.add_comm]

omit [YI] in
theorem RCk_iff (k : Nat) : ∀ (xs : List AV) (cs : List Value), RCk num w F β k xs cs ↔ RCf num w F β (List.replicate xs.length k) xs cs
  | [], cs => by simp [RCk, RCf]
  | x :: xs, cs => by
    simp only [List.length_cons, List.replicate_succ]
    unfold RCk RCf
    constructor
    · rintro ⟨c1, c2, h1, h2, h3, h4⟩; exact ⟨c1, c2, h1, h2, h3, (RCk_iff k xs c2).1 h4⟩
    · rintro ⟨c1, c2, h1, h2, h3, h4⟩; exact ⟨c1, c2, h1, h2, h3, (RCk_iff k xs c2).2 h4⟩

/-- What is built: the zero value and the places. -/
def bldOk (P : Program) (t : TypeId) (ss : List Nat) (z : List AV) : Bool :=
  match P.info? t, P.underlying t with
  | some it, some (.struct fs) => (match it.zero with | some zv => chkKf ss z zv.cells.toList | none => false) && ss.all (fun n => decide (0 < n)) && placesOk P ss fs.toList 0
  | some it, some (.array _ e) => (match it.zero with | some zv => chkKf ss z zv.cells.toList | none => false) && ss.all (fun n => decide (0 < n)) &&
    (match P.info? e with | some ie => decide (ss = List.replicate ss.length ie.size) | none => false)
  | _, _ => false

omit [YI] in
theorem buildV_run {t : TypeId} {ss : List Nat} {z : List AV} (hc : bldOk P t ss z = true) (ps : List (Nat × AV)) (vs : List (Nat × Value)) (r : AV) (hp : PRep num w F β ps vs) (h : buildV ss z ps = some r) :
    ∃ v, (Instr.build t vs.toArray).run P w = .ok v w ∧ RX num w F β r v := by
  unfold buildV at h
  obtain ⟨z', hz', rfl⟩ := Option.map_eq_some_iff.1 h
  have key : ∃ cells : Array Value, P.built t vs = some cells ∧ RCf num w F β ss z' cells.toList := by
    unfold bldOk at hc
    split at hc
    · rename_i it fs hi hu
      simp only [Bool.and_eq_true, List.all_eq_true, decide_eq_true_eq] at hc
      obtain ⟨⟨h1, h2⟩, h3⟩ := hc
      split at h1
      · rename_i zv hzv
        obtain ⟨places, h4, h5⟩ := placesOk_spec ss fs.toList 0 h3
        obtain ⟨cells, h6, h7⟩ := fill_run (place := (places.toArray[·]?)) h2 (fun i n hn => by simpa using h5 i n hn) ps vs z z' zv.cells hp (chkKf_spec _ _ _ h1) hz'
        exact ⟨cells, by simp only [Program.built, hi, hu, hzv, h4, h6], h7⟩
      · cases h1
    · rename_i it n e hi hu
      simp only [Bool.and_eq_true, List.all_eq_true, decide_eq_true_eq] at hc
      obtain ⟨⟨h1, h2⟩, h3⟩ := hc
      split at h1
      · rename_i zv hzv
        split at h3
        · rename_i ie hie
          simp only [decide_eq_true_eq] at h3
          obtain ⟨cells, h6, h7⟩ := fill_run (place := fun i => some (i * ie.size, ie.size)) h2 (fun i n hn => by
            have hl : i < ss.length := (List.getElem?_eq_some_iff.1 hn).1
            rw [h3] at hn ⊢
            rw [offN_rep _ _ _ (by omega)]
            rw [List.getElem?_replicate] at hn
            split at hn
            · cases hn; rfl
            · contradiction) ps vs z z' zv.cells hp (chkKf_spec _ _ _ h1) hz'
          exact ⟨cells, by simp only [Program.built, hi, hu, hzv, hie, h6], h7⟩
        · cases h3
      · cases h1
    · cases hc
  obtain ⟨cells, h1, h2⟩ := key
  refine ⟨.agg cells, run_build w t _ cells (by simpa using h1), ?_⟩
  exact ⟨cells, .inl ⟨rfl, rfl⟩, by unfold RC; exact h2⟩

/-! ### New blocks -/

/-- Another meaning for one key and generation. -/
def Beta.set (β : Beta) (p g : Nat) (x : Option Nat) : Beta := fun q g' => if q = p ∧ g' = g then some x else β q g'

omit [YI] in
theorem Later.of_heap {w' : World} (h : w'.heap = w.heap) : Later w F β w' F β :=
  ⟨fun _ h => h, fun b _ => by rw [h], fun b m hm => by unfold blkSize at *; rw [h]; exact hm, fun _ _ _ h => h⟩
theorem Inv.of_heap {w' : World} (h : w'.heap = w.heap) (hi : Inv num w F β ob) : Inv num w' F β ob :=
  hi.later (Later.of_heap h) (fun b hb => by rw [h]; exact hi.fin b hb) fun b ⟨p, g, o, h1, h2⟩ => by
    have := hi.own p g o b h1 h2
    exact ⟨by rw [h], this.1, by rw [h]; exact this.2⟩
omit [YI] in
theorem Chg.of_heap {w' : World} {M : Nat → Prop} (h : w'.heap = w.heap) (h1 : w'.os = w.os) (h2 : w'.tape = w.tape) (h3 : w'.output = w.output) : Chg w F M w' F :=
  ⟨h1, h2, h3, by rw [h]; exact Nat.le_refl _, fun b _ _ => by rw [h], fun _ h => .inl h⟩

omit [YI] in
theorem Beta.set_same (β : Beta) (p g : Nat) (x : Option Nat) : β.set p g x p g = some x := by simp [Beta.set]
omit [YI] in
theorem Beta.set_ext {g : Nat} (hg : ∀ p, β p g = none) (p : Nat) (x : Option Nat) : ∀ q g' y, β q g' = some y → β.set p g x q g' = some y := by
  intro q g' y h
  unfold Beta.set
  split
  · rename_i he
    rw [he.1, he.2, hg] at h
    cases h
  · exact h
omit [YI] in
theorem Tail.put {tg p : Nat} {x : Option Nat} {o : AObj} (hx : ∀ b, x = some b → liveB β ob b ∨ w.heap.size ≤ b) : Tail w β ob (β.set p tg x) (up ob p (tg, o)) tg := by
  refine ⟨fun q g' y h => ?_, fun b hb => ?_⟩
  · unfold Beta.set at h
    split at h
    · rename_i he; exact .inr he.2
    · exact .inl h
  · obtain ⟨q, g', o', h1, h2⟩ := hb
    rw [lk_up] at h1
    unfold Beta.set at h2
    split at h1
    · rename_i e
      cases h1
      rw [if_pos ⟨e, rfl⟩] at h2
      cases h2
      exact hx b rfl
    · rename_i e
      rw [if_neg (fun h => e h.1)] at h2
      exact .inl ⟨q, g', o', h1, h2⟩

omit [YI] in
theorem Beta.set_dom (β : Beta) (p g : Nat) (x : Option Nat) : ∀ q g' y, β.set p g x q g' = some y → β q g' = some y ∨ g' = g := by
  intro q g' y h
  unfold Beta.set at h
  split at h
  · rename_i he; exact .inr he.2
  · exact .inl h

omit [YI] in
theorem later_obj {g : Nat} (hF : ∀ b, F b → b < w.heap.size) (hg : ∀ p, β p g = none) (p : Nat) (x : Option Nat) (o : Obj) : Later w F β (w.alloc o) F (β.set p g x) :=
  ⟨fun _ h => h, fun b hb => heap_alloc_old w o b (hF b hb), fun b m h => blkSize_alloc w o b m h, Beta.set_ext hg p x⟩

omit [YI] in
theorem chg_obj (x : Obj) (M : Nat → Prop) : Chg w F M (w.alloc x) F :=
  ⟨rfl, rfl, rfl, by simp, fun b hb _ => heap_alloc_old w x b hb, fun b h => .inl h⟩

/-- One key has a new object, in a block that nothing else stands in. -/
theorem Inv.put {w' : World} {β' : Beta} {p g : Nat} {o : AObj} {x : Option Nat} (hi : Inv num w F β ob) (hl : Later w F β w' F β') (hs : w.heap.size ≤ w'.heap.size)
    (hb : β' p g = some x) (ho : ORep num w' F β' x o) (hx : ∀ b, x = some b → ¬ F b ∧ b < w'.heap.size ∧ ∀ q g' o', q ≠ p → lk ob q = some (g', o') → β q g' ≠ some (some b))
    (hold : ∀ b q g' o', q ≠ p → lk ob q = some (g', o') → β q g' = some (some b) → w'.heap[b]? = w.heap[b]?) : Inv num w' F β' (up ob p (g, o)) := by
  refine ⟨fun b hb => Nat.lt_of_lt_of_le (hi.fin b hb) hs, fun q g' o' hq => ?_, fun q g' o' b hq hqb => ?_, fun q g' o' q' g'' o'' b hq hq' hqb hqb' => ?_⟩
  · rw [lk_up] at hq
    split at hq
    · rename_i e
      subst e
      cases hq
      exact ⟨x, hb, ho⟩
    · rename_i e
      obtain ⟨y, h1, h2⟩ := hi.rep q g' o' hq
      exact ⟨y, hl.beta _ _ _ h1, h2.later hl fun b hy => hold b q g' o' e hq (hy ▸ h1)⟩
  · rw [lk_up] at hq
    split at hq
    · rename_i e
      subst e
      cases hq
      rw [hb] at hqb
      cases hqb
      exact ⟨(hx b rfl).1, (hx b rfl).2.1⟩
    · rename_i e
      obtain ⟨y, h1, h2⟩ := hi.rep q g' o' hq
      have h3 := hl.beta _ _ _ h1
      rw [hqb] at h3
      cases h3
      have := hi.own q g' o' b hq h1
      exact ⟨this.1, Nat.lt_of_lt_of_le this.2 hs⟩
  · have back : ∀ q0 g0 o0, q0 ≠ p → lk ob q0 = some (g0, o0) → β' q0 g0 = some (some b) → β q0 g0 = some (some b) := by
      intro q0 g0 o0 _ h1 h2
      obtain ⟨y, h3, _⟩ := hi.rep q0 g0 o0 h1
      have h4 := hl.beta _ _ _ h3
      rw [h2] at h4
      cases h4
      exact h3
    rw [lk_up] at hq hq'
    by_cases e : q = p
    · by_cases e' : q' = p
      · rw [e, e']
      · rw [if_pos e] at hq
        rw [if_neg e'] at hq'
        subst e
        cases hq
        rw [hb] at hqb
        cases hqb
        exact ((hx b rfl).2.2 q' g'' o'' e' hq' (back _ _ _ e' hq' hqb')).elim
    · by_cases e' : q' = p
      · rw [if_neg e] at hq
        rw [if_pos e'] at hq'
        subst e'
        cases hq'
        rw [hb] at hqb'
        cases hqb'
        exact ((hx b rfl).2.2 q g' o' e hq (back _ _ _ e hq hqb)).elim
      · rw [if_neg e] at hq
        rw [if_neg e'] at hq'
        exact hi.inj _ _ _ _ _ _ _ hq hq' (back _ _ _ e hq hqb) (back _ _ _ e' hq' hqb')

/-- A new object in a new block. -/
theorem inv_obj {p g : Nat} {o : AObj} {x : Obj} (hi : Inv num w F β ob) (hg : ∀ p, β p g = none) (ho : ORep num (w.alloc x) F (β.set p g (some w.heap.size)) (some w.heap.size) o) :
    Inv num (w.alloc x) F (β.set p g (some w.heap.size)) (up ob p (g, o)) := by
  refine hi.put (later_obj hi.fin hg p _ x) (by simp) (Beta.set_same _ _ _ _) ho (fun b hb => ?_) fun b q g' o' _ hq hb => ?_
  · cases hb
    refine ⟨fun h => ?_, by simp, fun q g' o' _ hq hqb => ?_⟩
    · have := hi.fin _ h; omega
    · have := (hi.own _ _ _ _ hq hqb).2; omega
  · exact heap_alloc_old w x b (hi.own _ _ _ _ hq hb).2

/-- A new object without a block. -/
theorem inv_none {p g k : Nat} (hi : Inv num w F β ob) (hg : ∀ p, β p g = none) : Inv num w F (β.set p g none) (up ob p (g, .arr k [])) :=
  hi.put ⟨fun _ h => h, fun _ _ => rfl, fun _ _ h => h, Beta.set_ext hg p none⟩ (Nat.le_refl _) (Beta.set_same _ _ _ _) (by unfold ORep; rfl) (fun b hb => by cases hb) fun _ _ _ _ _ _ _ => rfl
end
end Go.Fw
