import Derived.Test.YtniofejaoleipaaGreatDoorFwMake
/-
  Operations that make objects or rows.
-/
namespace Go.Fw
variable [YI]

/-- A run that hands a value on. tg: the generation that new objects may have. -/
def Done (P : Program) (num : Nat → FuncId) (s : Sem Value) (w : World) (F : Nat → Prop) (β : Beta) (ob ob' : Ob) (tg : Nat) (a : AV) : Prop :=
  ∃ v w' F' β', s.run P w = .ok v w' ∧ Later w F β w' F' β' ∧ Chg w F (liveB β ob) w' F' ∧ Inv num w' F' β' ob' ∧ RX num w' F' β' a v ∧
    Tail w β ob β' ob' tg

section
variable {P : Program} {num : Nat → FuncId} {w : World} {F : Nat → Prop} {β : Beta} {ob : Ob} {tg : Nat}

theorem OpOk.of_done {o : Oper} {act : Act} {s : Sem Value} {ob' : Ob} {a : AV} (he : execOp act.eval o = (do Pure.pure (Next.value (← s)) : Sem Next)) (h : Done P num s w F β ob ob' tg a) : OpOk P num o act w F β ob ob' tg a := by
  obtain ⟨v, w', F', β', h1, h2⟩ := h
  exact ⟨v, w', F', β', .inl (by rw [he]; simp [h1]), h2⟩

omit [YI] in
theorem RX.cells2 {a : AV} {v : Value} (h : RX num w F β a v) (hu : a ≠ .und) (ht : ∀ vs, a ≠ .tup vs) : RC num w F β a v.cells.toList := by
  obtain ⟨cs, h1, h2⟩ := h.one hu ht
  rcases h1 with ⟨rfl, _⟩ | ⟨rfl, hg⟩
  · exact h2
  · have hv := RC_one _ _ h2 v (by simp)
    cases v <;> first | exact h2 | (simp [Value.oneCell'] at hv)

omit [YI] in
theorem run_newVar (e : TypeId) (v : Value) : (newVar e v).run P w = .ok ⟨w.heap.size, 0, none⟩ (w.alloc (.cells v.cells e)) := by
  simp [newVar, newRow]
  try rfl

/-- A variable that is never written again. -/
theorem done_boxC (hi : Inv num w F β ob) {e : TypeId} {a : AV} {v : Value} (ha : RX num w F β a v) : Done P num (Instr.box e v) w F β ob ob tg (.cptr a) := by
  refine ⟨.pointer (some ⟨w.heap.size, 0, none⟩), w.alloc (.cells v.cells e), _, β, by simp [Instr.box, run_newVar], later_alloc hi.fin _, chg_alloc _ _, inv_alloc hi _, RX.of_single ?_ rfl, .same⟩
  unfold RC
  by_cases hu : a = .und
  · subst hu
    exact ⟨_, [], rfl, ⟨fun _ => rfl, fun h => (h rfl).elim, by simp⟩, by unfold RC; rfl⟩
  · by_cases ht : ∃ vs, a = .tup vs
    · obtain ⟨vs, rfl⟩ := ht
      exact ⟨_, [], rfl, ⟨fun _ => rfl, fun h => (h rfl).elim, by simp⟩, by unfold RC; rfl⟩
    · exact ⟨_, _, rfl, row_alloc v.cells e, RC.later (later_alloc hi.fin _) _ _ (ha.cells2 hu (fun vs h => ht ⟨vs, h⟩))⟩

/-- The zero value of a type. -/
def zeroOk (P : Program) (t : TypeId) (z : AV) : Bool :=
  match P.info? t with
  | some it => match it.zero with
    | some zv => chkK z zv.cells.toList
    | none => false
  | none => false

omit [YI] in
theorem chkK_ok {a : AV} {cs : List Value} (h : chkK a cs = true) : a ≠ .und ∧ ∀ vs, a ≠ .tup vs := by
  refine ⟨?_, fun vs => ?_⟩ <;> rintro rfl <;> (unfold chkK at h; simp at h)

theorem done_allocC (hi : Inv num w F β ob) {e : TypeId} {z : AV} (hz : zeroOk P e z = true) (old : Value) : Done P num (Instr.alloc e true old) w F β ob ob tg (.cptr z) := by
  unfold zeroOk at hz
  split at hz
  · rename_i it hit
    split at hz
    · rename_i zv hzv
      refine ⟨.pointer (some ⟨w.heap.size, 0, none⟩), w.alloc (.cells zv.cells e), _, β, by simp [Instr.alloc, zeroValue, typeInfo, hit, hzv, run_newVar], later_alloc hi.fin _, chg_alloc _ _, inv_alloc hi _, RX.of_single ?_ rfl, .same⟩
      unfold RC
      exact ⟨_, _, rfl, row_alloc zv.cells e, chkK_spec _ _ hz⟩
    · cases hz
  · cases hz

omit [YI] in
theorem newV_run {p g : Nat} {r : AV} {x : AObj} {y : AV × List Wr} (h : (newV p g r x).run ob = some y) : lk ob p = none ∧ y = (r, [.o p g x]) := by
  unfold newV MO.run at h
  split at h
  · cases h
  · rename_i hl
    unfold MO.run at h
    cases h
    exact ⟨hl, rfl⟩

/-- A new variable that may be written. -/
theorem done_obj (hi : Inv num w F β ob) (hg : ∀ p, β p tg = none) {p : Nat} {e : TypeId} {cells : Array Value} {x : AV} (s : Sem Value)
    (hs : s.run P w = .ok (.pointer (some ⟨w.heap.size, 0, none⟩)) (w.alloc (.cells cells e))) (hx : RC num w F β x cells.toList ∨ x = .und ∨ ∃ as, x = .tup as) :
    Done P num s w F β ob (up ob p (tg, .bx x)) tg (.ptr p tg [] 0) := by
  refine ⟨_, _, F, β.set p tg (some w.heap.size), hs, later_obj hi.fin hg p _ _, chg_obj _ _, inv_obj hi hg ?_, RX.of_single ?_ rfl, Tail.put fun b hb => by cases hb; exact .inr (by simp_all)⟩
  · unfold ORep
    exact ⟨cells, e, heap_alloc_new w _, hx.imp (RC.later (later_obj hi.fin hg p _ _) _ _) id⟩
  · unfold RC
    exact ⟨_, Beta.set_same _ _ _ _, rfl⟩

theorem done_alloc (hi : Inv num w F β ob) (hg : ∀ p, β p tg = none) {p : Nat} {e : TypeId} {z : AV} (hz : zeroOk P e z = true) (old : Value) :
    Done P num (Instr.alloc e true old) w F β ob (up ob p (tg, .bx z)) tg (.ptr p tg [] 0) := by
  unfold zeroOk at hz
  split at hz
  · rename_i it hit
    split at hz
    · rename_i zv hzv
      exact done_obj hi hg (e := e) (cells := zv.cells) _ (by simp [Instr.alloc, zeroValue, typeInfo, hit, hzv, run_newVar]) (.inl (chkK_spec _ _ hz))
    · cases hz
  · cases hz

theorem done_boxO (hi : Inv num w F β ob) (hg : ∀ p, β p tg = none) {p : Nat} {e : TypeId} {a : AV} {v : Value} (ha : RX num w F β a v) :
    Done P num (Instr.box e v) w F β ob (up ob p (tg, .bx a)) tg (.ptr p tg [] 0) := by
  refine done_obj hi hg (e := e) (cells := v.cells) _ (by simp [Instr.box, run_newVar]) ?_
  by_cases hu : a = .und
  · exact .inr (.inl hu)
  · by_cases ht : ∃ vs, a = .tup vs
    · exact .inr (.inr ht)
    · exact .inl (ha.cells2 hu (fun vs h => ht ⟨vs, h⟩))

/-! ### Rows -/

omit [YI] in
theorem sumN_rep (k : Nat) : ∀ n, sumN (List.replicate n k) = n * k
  | 0 => by simp [sumN]
  | n + 1 => by rw [List.replicate_succ]; simp only [sumN]; rw [sumN_rep k n, Nat.succ_mul, Nat.add_comm]

omit [YI] in
theorem zero_cells (zero : Array Value) (k : Nat) (hk : zero.size = k) : ∀ n : Nat, ((Array.range (n * k)).map (fun i => zero[i % zero.size]!)).toList = (List.replicate n zero.toList).flatten := by
  intro n
  induction n with
  | zero => simp
  | succ n ih =>
    rw [List.replicate_succ', List.flatten_append, ← ih]
    simp only [Array.toList_map, Array.toList_range, List.flatten_cons, List.flatten_nil, List.append_nil]
    rw [Nat.succ_mul, List.range_add, List.map_append]
    congr 1
    apply List.ext_getElem
    · simp [hk]
    · intro i h1 h2
      simp at h1
      have : (n * k + i) % zero.size = i := by rw [hk, Nat.add_comm, Nat.add_mul_mod_self_right, Nat.mod_eq_of_lt h1]
      have hlt : i < zero.size := by omega
      simp [this, getElem!_pos zero i hlt]

omit [YI] in
theorem RCk_rep {k : Nat} {z : AV} {cs : List Value} (h : RC num w F β z cs) (hk : cs.length = k) : ∀ n, RCk num w F β k (List.replicate n z) (List.replicate n cs).flatten
  | 0 => by simp; unfold RCk; rfl
  | n + 1 => by
    rw [List.replicate_succ, List.replicate_succ, List.flatten_cons]
    unfold RCk
    exact ⟨cs, _, rfl, hk, h, RCk_rep h hk n⟩

/-- The element type of a slice type: its cells and zero value. -/
def elOk (P : Program) (t : TypeId) (k : Nat) (z : AV) : Bool :=
  match P.underlying t with
  | some (.slice e) => zeroOk P e z && decide ((P.info? e).map (·.size) = some k) && decide (z.size = k) && decide (0 < k)
  | _ => false

/-- The same without the zero value itself. -/
def elSz (P : Program) (t : TypeId) (k : Nat) : Bool :=
  match P.underlying t with
  | some (.slice e) => match P.info? e with
    | some it => match it.zero with
      | some zv => decide (it.size = k) && decide (zv.cells.size = k) && decide (0 < k)
      | none => false
    | none => false
  | _ => false

omit [YI] in
theorem elSz_spec {P : Program} {t : TypeId} {k : Nat} (h : elSz P t k = true) : ∃ e it zv, P.underlying t = some (.slice e) ∧ P.info? e = some it ∧ it.zero = some zv ∧ it.size = k ∧ 0 < k ∧ zv.cells.size = k := by
  unfold elSz at h
  split at h
  · rename_i e hu
    split at h
    · rename_i it hit
      split at h
      · rename_i zv hzv
        simp only [Bool.and_eq_true, decide_eq_true_eq] at h
        exact ⟨e, it, zv, hu, hit, hzv, h.1.1, h.2, h.1.2⟩
      · cases h
    · cases h
  · cases h

omit [YI] in
theorem elOk_spec {t : TypeId} {k : Nat} {z : AV} (h : elOk P t k z = true) : ∃ e it zv, P.underlying t = some (.slice e) ∧ P.info? e = some it ∧ it.zero = some zv ∧ it.size = k ∧ 0 < k ∧ zv.cells.size = k ∧
    (∀ (w : World) (F : Nat → Prop) (β : Beta), RC num w F β z zv.cells.toList) := by
  unfold elOk at h
  split at h
  · rename_i e hu
    simp only [Bool.and_eq_true, decide_eq_true_eq] at h
    obtain ⟨⟨⟨h1, h2⟩, h3⟩, h4⟩ := h
    unfold zeroOk at h1
    split at h1
    · rename_i it hit
      split at h1
      · rename_i zv hzv
        rw [hit] at h2
        simp only [Option.map_some, Option.some.injEq] at h2
        refine ⟨e, it, zv, hu, hit, hzv, h2, h4, ?_, fun w F β => chkK_spec _ _ h1⟩
        have := RC_len _ _ (chkK_spec (num := num) (w := default) (F := fun _ => False) (β := fun _ _ => none) _ _ h1)
        rw [h3] at this
        simpa using this
      · cases h1
    · cases h1
  · cases h

omit [YI] in
theorem bsl_run {t : TypeId} {k n : Nat} {z : AV} (he : elOk P t k z = true) (hn : n * k ≤ 2 ^ 24) (ps : List (Nat × AV)) (vs : List (Nat × Value)) (xs : List AV) (hp : PRep num w F β ps vs)
    (h : fillV (List.replicate n z) ps = some xs) : ∃ (e : TypeId) (cells : Array Value), (Instr.buildSlice t n vs.toArray).run P w = .ok (.slice (some ⟨w.heap.size, 0, none⟩) n n) (w.alloc (.cells cells e)) ∧
      RCk num w F β k xs cells.toList ∧ xs.length = n ∧ cells.size = n * k := by
  obtain ⟨e, it, zv, h1, h2, h3, h4, h5, h6, h7⟩ := elOk_spec (num := num) he
  have hfl : ∀ (ps : List (Nat × AV)) (z0 z1 : List AV), fillV z0 ps = some z1 → z1.length = z0.length := by
    intro ps
    induction ps with
    | nil => intro z0 z1 h; cases h; rfl
    | cons p ps ih =>
      intro z0 z1 h
      unfold fillV at h
      split at h
      · split at h
        · rw [ih _ _ h]; simp
        · cases h
      · cases h
  have hlen : xs.length = n := by rw [hfl _ _ _ h]; simp
  have hz : ∃ cells0 : Array Value, cells0 = (Array.range (n * k)).map (fun i => zv.cells[i % zv.cells.size]!) ∧ RCk num w F β k (List.replicate n z) cells0.toList :=
    ⟨_, rfl, by rw [zero_cells _ k h6]; exact RCk_rep (h7 w F β) (by simp [h6]) n⟩
  obtain ⟨cells0, hc0, hr0⟩ := hz
  obtain ⟨cells, hf, hr⟩ := fill_run (place := fun i => some (i * k, k)) (ss := List.replicate n k) (fun m hm => by rw [List.eq_of_mem_replicate hm]; exact h5) (fun i m hm => by
    rw [List.getElem?_replicate] at hm
    split at hm
    · rename_i hlt
      cases hm
      rw [offN_rep _ _ _ (by omega)]
    · cases hm) ps vs (List.replicate n z) xs cells0 hp (by have := (RCk_iff k _ _).1 hr0; simpa using this) h
  have hrk : RCk num w F β k xs cells.toList := (RCk_iff k _ _).2 (by rw [hlen]; exact hr)
  refine ⟨e, cells, ?_, hrk, hlen, ?_⟩
  · have hnk : ¬ (n * k > 2 ^ 24) := by omega
    have h0 : n = 0 → cells0 = #[] := by rintro rfl; rw [hc0]; simp
    by_cases hn0 : n * k = 0
    · have hn0' : n = 0 := by
        rcases Nat.mul_eq_zero.1 hn0 with h | h
        · exact h
        · omega
      subst hn0'
      have := h0 rfl
      subst this
      simp only [Instr.buildSlice, Sem.run_bind, run_underlying h1, Result.andThen_ok, sizeOf, typeInfo, run_program, h2, h4, Sem.run_pure, if_neg hnk, if_pos hn0]
      have e1 : (Array.range (0 * k)).map (fun i => (#[] : Array Value)[i % (#[] : Array Value).size]!) = #[] := by simp
      rw [e1, hf]
      simp only [newRow, Sem.run_bind, run_newObj, Result.andThen_ok, Sem.run_pure]
      rfl
    · have hk0 : n ≠ 0 ∧ k ≠ 0 := ⟨fun h => hn0 (by simp [h]), fun h => hn0 (by simp [h])⟩
      simp only [Instr.buildSlice, Sem.run_bind, run_underlying h1, Result.andThen_ok, sizeOf, typeInfo, run_program, h2, h4, Sem.run_pure, if_neg hnk, if_neg hn0, zeroValue, h3, ← hc0, hf, newRow, run_newObj]
      rfl
  · have := RCf_len _ _ _ hr
    simp only [Array.length_toList] at this
    rw [this, sumN_rep]

theorem done_bsl (hi : Inv num w F β ob) {t : TypeId} {k n : Nat} {z : AV} (he : elOk P t k z = true) (hn : n * k ≤ 2 ^ 24) (ps : List (Nat × AV)) (vs : List (Nat × Value)) (r : AV) (hp : PRep num w F β ps vs)
    (hfit : n = 0 → vs = []) (h : bslV k n z ps = some r) : Done P num (Instr.buildSlice t n vs.toArray) w F β ob ob tg r := by
  unfold bslV at h
  split at h
  · rename_i hn0
    cases h
    subst hn0
    have hv := hfit rfl
    subst hv
    have hps : ps = [] := by cases ps with
      | nil => rfl
      | cons p ps => exact hp.elim
    subst hps
    obtain ⟨e, cells, h1, h2, h3, h4⟩ := bsl_run (P := P) (num := num) (w := w) (F := F) (β := β) he hn [] [] [] trivial (by rfl)
    refine ⟨_, _, _, β, h1, later_alloc hi.fin _, chg_alloc _ _, inv_alloc hi _, RX.of_single ?_ rfl, .same⟩
    unfold RC
    exact ⟨_, rfl, rfl⟩
  · obtain ⟨xs, hxs, rfl⟩ := Option.map_eq_some_iff.1 h
    obtain ⟨e, cells, h1, h2, h3, h4⟩ := bsl_run he hn ps vs xs hp hxs
    refine ⟨_, _, _, β, h1, later_alloc hi.fin _, chg_alloc _ _, inv_alloc hi _, RX.of_single ?_ rfl, .same⟩
    unfold RC
    exact .inr ⟨_, n, _, by rw [h3], by rw [h3]; exact Nat.le_refl _, row_alloc cells e, RCk.later (later_alloc hi.fin _) _ _ _ h2⟩

/-- A new array behind an owned slice. -/
theorem done_arr (hi : Inv num w F β ob) (hg : ∀ p, β p tg = none) {p k n cap : Nat} {e : TypeId} {cells : Array Value} {xs : List AV} {rest cs : List Value} {w0 : World} (hw : w0.heap = w.heap) (h1 : w0.os = w.os) (h2 : w0.tape = w.tape) (h3 : w0.output = w.output)
    (s : Sem Value) (hs : s.run P w = .ok (.slice (some ⟨w.heap.size, 0, none⟩) n cap) (w0.alloc (.cells cells e))) (hx : RCk num w F β k xs cs) (hc : cells.toList = cs ++ rest) (hn : n ≤ cap) (hcap : cap ≤ maxLen) (hsz : cap * k ≤ cells.size) :
    Done P num s w F β ob (up ob p (tg, .arr k xs)) tg (.own p tg k 0 n) := by
  have hl0 : Later w F β w0 F β := Later.of_heap hw
  have hi0 : Inv num w0 F β ob := hi.of_heap hw
  have hsize : w0.heap.size = w.heap.size := by rw [hw]
  refine ⟨_, _, F, β.set p tg (some w0.heap.size), hs, hl0.trans (later_obj hi0.fin hg p _ _), (Chg.of_heap hw h1 h2 h3).trans (chg_obj _ _) (fun _ h => .inl h), inv_obj hi0 hg ?_, RX.of_single ?_ rfl, Tail.put fun b hb => by cases hb; exact .inr (by simp_all)⟩
  · unfold ORep
    exact ⟨cells, e, cs, rest, heap_alloc_new w0 _, RCk.later (hl0.trans (later_obj hi0.fin hg p _ _)) _ _ _ hx, hc⟩
  · unfold RC
    refine .inr ⟨w0.heap.size, cap, cells.size, Beta.set_same _ _ _ _, by simp [hsize], hn, hcap, ?_, by simpa using hsz⟩
    unfold blkSize
    rw [heap_alloc_new w0 _]

theorem done_bslO (hi : Inv num w F β ob) (hg : ∀ p, β p tg = none) {p : Nat} {t : TypeId} {k n : Nat} {z : AV} (he : elOk P t k z = true) (hn : n * k ≤ 2 ^ 24) (ps : List (Nat × AV)) (vs : List (Nat × Value)) (xs : List AV) (hp : PRep num w F β ps vs)
    (h : fillV (List.replicate n z) ps = some xs) : Done P num (Instr.buildSlice t n vs.toArray) w F β ob (up ob p (tg, .arr k xs)) tg (.own p tg k 0 n) := by
  obtain ⟨e, cells, h1, h2, h3, h4⟩ := bsl_run he hn ps vs xs hp h
  obtain ⟨_, _, _, _, _, _, _, h5, _⟩ := elOk_spec (num := num) he
  have : n ≤ maxLen := by
    have : n ≤ n * k := Nat.le_mul_of_pos_right n h5
    simp only [maxLen]
    omega
  exact done_arr hi hg (w0 := w) rfl rfl rfl rfl _ h1 h2 (rest := []) (by simp) (Nat.le_refl _) this (by rw [h4]; exact Nat.le_refl _)

/-- nil as an owned slice. -/
theorem done_newnil (hi : Inv num w F β ob) (hg : ∀ p, β p tg = none) {p k : Nat} : Done P num (pure (.slice none 0 0)) w F β ob (up ob p (tg, .arr k [])) tg (.own p tg k 0 0) := by
  refine ⟨.slice none 0 0, w, F, β.set p tg none, by simp, ⟨fun _ h => h, fun _ _ => rfl, fun _ _ h => h, Beta.set_ext hg p none⟩, Chg.refl _ _ _, inv_none hi hg, RX.of_single ?_ rfl, Tail.put fun b hb => by cases hb⟩
  unfold RC
  exact .inl ⟨none, by simp, rfl, rfl⟩

/-- The bound that goes with a slice type's elements. -/
def limOk (P : Program) (t : TypeId) (lim : Nat) : Bool :=
  match P.underlying t with
  | some (.slice e) => match P.info? e with
    | some it => decide (lim * max it.bytes 1 ≤ 140737488355328)
    | none => false
  | _ => false

omit [YI] in
theorem limOk_spec {t e : TypeId} {it : TypeInfo} {lim : Nat} (h : limOk P t lim = true) (hu : P.underlying t = some (.slice e)) (hi : P.info? e = some it) {m : Nat} (hm : m ≤ lim) : m * it.bytes ≤ 140737488355328 ∧ m ≤ 140737488355328 := by
  unfold limOk at h
  rw [hu] at h
  simp only [hi, decide_eq_true_eq] at h
  have h1 : m * max it.bytes 1 ≤ lim * max it.bytes 1 := Nat.mul_le_mul_right _ hm
  have h2 : m * it.bytes ≤ m * max it.bytes 1 := Nat.mul_le_mul_left _ (Nat.le_max_left _ _)
  have h3 : m * 1 ≤ m * max it.bytes 1 := Nat.mul_le_mul_left _ (Nat.le_max_right _ _)
  omega

theorem done_mkslice (hi : Inv num w F β ob) (hg : ∀ p, β p tg = none) {p : Nat} {t : TypeId} {k lim : Nat} {z : AV} (he : elOk P t k z = true) (hlim : limOk P t lim = true) {n : AV} {v : Value} (hn : RX num w F β n v) {r : AV × List Wr}
    (h : (mksliceV p k lim tg z n).run ob = some r) : Done P num (Instr.makeSlice t v v) w F β ob (wrsO ob r.2) tg r.1 := by
  unfold mksliceV at h
  split at h
  · rename_i ik m
    have := hn.atom_inv
    subst this
    split at h
    · rename_i hc
      obtain ⟨hp, rfl⟩ := newV_run h
      obtain ⟨e, it, zv, h1, h2, h3, h4, h5, h6, h7⟩ := elOk_spec (num := num) he
      obtain ⟨b1, b2⟩ := limOk_spec hlim h1 h2 (m := m.toNat) (by omega)
      obtain ⟨q, rfl⟩ : ∃ q : Nat, m = (q : Int) := ⟨m.toNat, by omega⟩
      simp only [Int.toNat_natCast] at *
      have hw : IntKind.i64.wrap (q : Int) = q := by
        rw [IntKind.wrap_i64]; omega
      have hb : ¬ (it.bytes * (q : Int) > 2 ^ 48) := by
        have : it.bytes * (q : Int) = ((q * it.bytes : Nat) : Int) := by rw [Nat.mul_comm]; simp
        rw [this]; omega
      have hq0 : ¬ ((q : Int) < 0) := by omega
      have hcells : ∃ cells : Array Value, RCk num w F β k (List.replicate q z) cells.toList ∧ cells.size = q * k ∧
          (Instr.makeSlice t (.int ik (q : Int)) (.int ik (q : Int))).run P w = .ok (.slice (some ⟨w.heap.size, 0, none⟩) q q) (w.alloc (.cells cells e)) := by
        by_cases hz : q = 0
        · subst hz
          refine ⟨#[], by simp; unfold RCk; rfl, by simp, ?_⟩
          simp [Instr.makeSlice, run_underlying h1, asInt, asIntOf, typeInfo, sizeOf, h2, IntKind.wrap_i64, newRow]
          show w.alloc _ = _
          congr 2
          simp
        · have hnz : ¬ (q * k = 0) := by
            intro h
            rcases Nat.mul_eq_zero.1 h with h | h <;> omega
          refine ⟨(Array.range (q * k)).map (fun i => zv.cells[i % zv.cells.size]!), ?_, by simp, ?_⟩
          · rw [zero_cells _ k h6]; exact RCk_rep (h7 w F β) (by simp [h6]) q
          · simp [Instr.makeSlice, run_underlying h1, asInt, asIntOf, typeInfo, sizeOf, zeroValue, h2, h3, h4, hw, hq0, hnz, newRow]
            exact fun h => (hb (by omega)).elim
      obtain ⟨cells, k1, k2, k3⟩ := hcells
      exact done_arr hi hg (w0 := w) rfl rfl rfl rfl _ k3 k1 (rest := []) (by simp) (Nat.le_refl _) (by simp only [maxLen]; omega) (by rw [k2]; exact Nat.le_refl _)
    · cases h
  · cases h
end
end Go.Fw
