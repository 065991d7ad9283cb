import Derived.Test.YtniofejaoleipaaGreatDoorFwApp2
/-
  Maps with strings as keys.
-/
namespace Go.Fw
variable [YI]
section
variable {P : Program} {num : Nat → FuncId} {w : World} {F : Nat → Prop} {β : Beta} {ob : Ob} {tg : Nat}

omit [YI] in
theorem bytes_beq (a b : ByteArray) : (a == b) = decide (a = b) := by
  rw [beq_toListBytes, beq_toList]

omit [YI] in
theorem find_run (s : ByteArray) : ∀ (en : List MapEntry) (es : List (ByteArray × AV)) (i : Nat), REnt num w F β en es →
    (lkMap es s = none ∧ Instr.findNow .string (.string s) en i = some none) ∨
    ∃ j a e, lkMap es s = some a ∧ Instr.findNow .string (.string s) en i = some (some (i + j, e.val)) ∧ en[j]? = some e ∧ e.key = .string s ∧ RX num w F β a e.val
  | [], [], i, _ => .inl ⟨rfl, rfl⟩
  | e :: en, (k, a) :: es, i, h => by
    obtain ⟨h1, h2, h3⟩ := h
    unfold lkMap Instr.findNow
    rw [h1]
    simp only [Instr.sameNow, bytes_beq]
    by_cases hk : s = k
    · subst hk
      right
      exact ⟨0, a, e, by simp, by simp, rfl, h1, h2⟩
    · rw [if_neg hk, decide_eq_false hk]
      rcases find_run s en es (i + 1) h3 with ⟨g1, g2⟩ | ⟨j, b, e', g1, g2, g3, g4, g5⟩
      · exact .inl ⟨g1, g2⟩
      · exact .inr ⟨j + 1, b, e', g1, by rw [show i + (j + 1) = i + 1 + j by omega]; exact g2, by simpa using g3, g4, g5⟩
  | [], _ :: _, _, h => h.elim
  | _ :: _, [], _, h => h.elim

omit [YI] in
theorem checkKey_string {kt : TypeId} (hks : P.underlying kt = some .string) (b : Bool) (n : Nat) (s : ByteArray) : (Instr.checkKey b (n + 1) kt (.string s)).run P w = .ok () w := by
  simp [Instr.checkKey, run_underlying hks]

/-- A map with strings as keys, its zero element. -/
def mapOk (P : Program) (num : Nat → FuncId) (t : TypeId) (d : AV) : Bool :=
  match P.underlying t with
  | some (.map k e) => (match P.underlying k with | some .string => true | _ => false) && (match P.info? e with
    | some it => match it.zero with
      | some zv => chkX num (.const zv) (.c d)
      | none => false
    | none => false)
  | _ => false
def mapKey (P : Program) (t : TypeId) : Bool :=
  match P.underlying t with
  | some (.map k _) => (match P.underlying k with | some .string => true | _ => false)
  | _ => false

omit [YI] in
theorem RX.mp_inv {p g : Nat} {x : Value} (h : RX num w F β (.mp p g) x) : ∃ b, β p g = some (some b) ∧ x = .map (some b) := by
  have h1 := h.single (by simp) (by simp) rfl
  unfold RC at h1
  obtain ⟨b, h2, h3⟩ := h1
  simp only [List.cons.injEq, and_true] at h3
  exact ⟨b, h2, h3⟩

theorem lookupV_run {t : TypeId} {d : AV} (ht : mapOk P num t d = true) (hi : Inv num w F β ob) (a b r : AV) (ok : Bool) (x y : Value) (ha : RX num w F β a x) (hb : RX num w F β b y) (h : (lookupV a b d ok).run ob = some r) :
    ∃ v, (Instr.lookup t x y ok).run P w = .ok v w ∧ RX num w F β r v := by
  unfold mapOk at ht
  split at ht
  case h_2 => cases ht
  rename_i kt e hu
  simp only [Bool.and_eq_true] at ht
  obtain ⟨hk, hz⟩ := ht
  split at hk
  case h_2 => cases hk
  rename_i hks
  split at hz
  case h_2 => cases hz
  rename_i it hit
  split at hz
  case h_2 => cases hz
  rename_i zv hzv
  have hd : RX num w F β d zv := by
    have := chkX_spec (num := num) (w := w) (F := F) (β := β) (env := []) (act := { tmps := #[], defers := [] }) (by intro n a h; cases h) hz (a := d) rfl
    exact this
  unfold lookupV at h
  split at h
  · rename_i p g s
    have hget := MO.get_run h
    clear h
    obtain ⟨o, hl, h⟩ := hget
    split at h
    · rename_i es
      cases h
      obtain ⟨blk, hbk, rfl⟩ := ha.mp_inv
      have := hb.atom_inv
      subst this
      obtain ⟨z, hz', ho⟩ := hi.rep p g _ hl
      rw [hbk] at hz'
      cases hz'
      unfold ORep at ho
      obtain ⟨en, clk, hh, hr⟩ := ho
      have hobj : (getObj blk).run P w = .ok (.map en clk) w := by simp [getObj, Sem.run, hh]
      have hck : ∀ b : Bool, (Instr.checkKey b 10000 kt (.string s)).run P w = .ok () w := fun b => checkKey_string hks b 9999 s
      rcases find_run s en.toList es 0 hr with ⟨g1, g2⟩ | ⟨j, b, e', g1, g2, g3, g4, g5⟩
      · have hfk : (Instr.findKey kt (.string s) en.toList).run P w = .ok none w := by simp [Instr.findKey, run_underlying hks, g2]
        rw [g1]
        cases ok with
        | true => exact ⟨.tuple #[zv, .bool false], by simp [Instr.lookup, run_underlying hu, hobj, hck, hfk, zeroValue, typeInfo, hit, hzv], _, rfl, RCv_cons.2 ⟨_, _, rfl, hd, RCv_cons.2 ⟨_, _, rfl, RX.of_atom rfl, by unfold RCv; rfl⟩⟩⟩
        | false => exact ⟨zv, by simp [Instr.lookup, run_underlying hu, hobj, hck, hfk, zeroValue, typeInfo, hit, hzv], hd⟩
      · have hfk : (Instr.findKey kt (.string s) en.toList).run P w = .ok (some (0 + j, e'.val)) w := by simp [Instr.findKey, run_underlying hks, g2]
        rw [g1]
        cases ok with
        | true => exact ⟨.tuple #[e'.val, .bool true], by simp [Instr.lookup, run_underlying hu, hobj, hck, hfk], _, rfl, RCv_cons.2 ⟨_, _, rfl, g5, RCv_cons.2 ⟨_, _, rfl, RX.of_atom rfl, by unfold RCv; rfl⟩⟩⟩
        | false => exact ⟨e'.val, by simp [Instr.lookup, run_underlying hu, hobj, hck, hfk], g5⟩
    · cases h
  · cases h

theorem mlenV_run {t ty : TypeId} (ht : mapKey P t = true) (hi : Inv num w F β ob) (a r : AV) (x : Value) (ha : RX num w F β a x) (h : (mlenV a).run ob = some r) :
    ∃ v, (Builtin.len_ #[t] ty #[x]).run P w = .ok v w ∧ RX num w F β r v := by
  unfold mapKey at ht
  split at ht
  case h_2 => cases ht
  rename_i kt e hu
  unfold mlenV at h
  split at h
  · rename_i p g
    have hget := MO.get_run h
    clear h
    obtain ⟨o, hl, h⟩ := hget
    split at h
    · rename_i es
      cases h
      obtain ⟨blk, hbk, rfl⟩ := ha.mp_inv
      obtain ⟨z, hz', ho⟩ := hi.rep p g _ hl
      rw [hbk] at hz'
      cases hz'
      unfold ORep at ho
      obtain ⟨en, clk, hh, hr⟩ := ho
      have hobj : (getObj blk).run P w = .ok (.map en clk) w := by simp [getObj, Sem.run, hh]
      have hlen : ∀ (en : List MapEntry) (es : List (ByteArray × AV)), REnt num w F β en es → en.length = es.length := by
        intro en
        induction en with
        | nil => intro es h; cases es with
          | nil => rfl
          | cons => exact h.elim
        | cons e en ih => intro es h; cases es with
          | nil => exact h.elim
          | cons x es => simp [ih es h.2.2]
      have := hlen _ _ hr
      simp only [Array.length_toList] at this
      exact ⟨goInt en.size, by simp [Builtin.len_, run_underlying hu, hobj], by rw [this]; exact RX.of_atom rfl⟩
    · cases h
  · cases h

omit [YI] in
theorem REnt_up (s : ByteArray) (c : AV) (v : Value) (hc : RX num w F β c v) : ∀ (en : List MapEntry) (es : List (ByteArray × AV)), REnt num w F β en es →
    (∀ (j : Nat) (e : MapEntry) (a : AV), lkMap es s = some a → en[j]? = some e → Instr.findNow .string (.string s) en 0 = some (some (j, e.val)) → REnt num w F β (en.modify j fun e => { e with key := .string s, val := v }) (upMap es s c)) ∧
    (∀ clk, lkMap es s = none → REnt num w F β (en ++ [{ key := .string s, val := v, born := clk }]) (upMap es s c))
  | [], [], _ => ⟨fun j e a h => by simp [lkMap] at h, fun clk _ => ⟨rfl, hc, trivial⟩⟩
  | e :: en, (k, a) :: es, h => by
    obtain ⟨h1, h2, h3⟩ := h
    obtain ⟨i1, i2⟩ := REnt_up s c v hc en es h3
    have shift : ∀ (l : List MapEntry) (i : Nat) (r : Option (Nat × Value)), Instr.findNow .string (.string s) l i = some r → Instr.findNow .string (.string s) l (i + 1) = some (r.map fun p => (p.1 + 1, p.2)) := by
      intro l
      induction l with
      | nil => intro i r h; cases h; rfl
      | cons e l ih =>
        intro i r h
        unfold Instr.findNow at h ⊢
        split at h
        · cases h; rfl
        · exact ih (i + 1) r h
        · cases h
    refine ⟨fun j e' b g1 g2 g3 => ?_, fun clk g1 => ?_⟩
    · unfold lkMap at g1
      unfold Instr.findNow at g3
      rw [h1] at g3
      simp only [Instr.sameNow, bytes_beq] at g3
      unfold upMap
      by_cases hk : s = k
      · subst hk
        rw [decide_eq_true rfl] at g3
        simp only [Option.some.injEq, Prod.mk.injEq] at g3
        obtain ⟨rfl, _⟩ := g3
        rw [if_pos rfl]
        exact ⟨rfl, hc, h3⟩
      · rw [decide_eq_false hk] at g3
        rw [if_neg hk] at g1 ⊢
        dsimp only at g3
        cases hf : Instr.findNow .string (.string s) en 0 with
        | none =>
          exfalso
          have bad : ∀ (l : List MapEntry) (ls : List (ByteArray × AV)) (i : Nat), REnt num w F β l ls → Instr.findNow .string (.string s) l i ≠ none := by
            intro l ls i hh hn
            rcases find_run s l ls i hh with ⟨_, q⟩ | ⟨_, _, _, _, q, _⟩ <;> (rw [hn] at q; cases q)
          exact bad en es 0 h3 hf
        | some r =>
          have g4 := shift en 0 r hf
          rw [g4] at g3
          cases r with
          | none => simp at g3
          | some q =>
            simp only [Option.map_some, Option.some.injEq, Prod.mk.injEq] at g3
            obtain ⟨rfl, hv⟩ := g3
            obtain ⟨q1, q2⟩ := q
            simp only at hv hf g2
            rw [List.getElem?_cons_succ] at g2
            have := i1 q1 e' b g1 g2 (by rw [hf, hv])
            rw [List.modify_succ_cons]
            exact ⟨h1, h2, this⟩
    · unfold lkMap at g1
      unfold upMap
      by_cases hk : s = k
      · subst hk; simp at g1
      · rw [if_neg hk] at g1 ⊢
        exact ⟨h1, h2, i2 clk g1⟩
  | [], _ :: _, h => h.elim
  | _ :: _, [], h => h.elim

/-- A block of a held object becomes another of its kind. -/
theorem put_block {p g blk : Nat} {o o' : AObj} {x : Obj} (hi : Inv num w F β ob) (hl : lk ob p = some (g, o)) (hbk : β p g = some (some blk)) {w' : World} (hw : w'.heap = w.heap.setIfInBounds blk x) (h1 : w'.os = w.os) (h2 : w'.tape = w.tape) (h3 : w'.output = w.output)
    (hold : blkSize w blk = none) (ho : Later w F β w' F β → ORep num w' F β (some blk) o') : Later w F β w' F β ∧ Chg w F (liveB β ob) w' F ∧ Inv num w' F β (up ob p (g, o')) ∧ Tail w β ob β (up ob p (g, o')) tg := by
  have hown := hi.own p g _ blk hl hbk
  have hne : ∀ k, k ≠ blk → w'.heap[k]? = w.heap[k]? := fun k hk => by rw [hw, Array.getElem?_setIfInBounds_ne (Ne.symm hk)]
  have hs : w'.heap.size = w.heap.size := by rw [hw]; simp
  have hlat : Later w F β w' F β := ⟨fun _ h => h, fun k hk => hne k fun e => hown.1 (e ▸ hk), fun k m hm => by
    by_cases he : k = blk
    · subst he; rw [hold] at hm; cases hm
    · unfold blkSize; rw [hne k he]; exact hm, fun _ _ _ h => h⟩
  refine ⟨hlat, ⟨h1, h2, h3, Nat.le_of_eq hs.symm, fun k _ hn => hne k fun e => hn (e ▸ ⟨p, g, o, hl, hbk⟩), fun _ h => .inl h⟩, ?_, ⟨fun _ _ _ h => .inl h, fun b hb => ?_⟩⟩
  · refine hi.put hlat (Nat.le_of_eq hs.symm) hbk (ho hlat) (fun b hb => ?_) fun b q g' o' hq hq' hqb => ?_
    · cases hb
      refine ⟨hown.1, by rw [hs]; exact hown.2, fun q g' o' hq hq' hqb => hq (hi.inj _ _ _ _ _ _ _ hq' hl hqb hbk)⟩
    · exact hne b fun e => hq (hi.inj _ _ _ _ _ _ _ hq' hl (e ▸ hqb) hbk)
  · obtain ⟨q, g', o', m1, m2⟩ := hb
    rw [lk_up] at m1
    split at m1
    · rename_i e; cases m1; subst e; exact .inl ⟨_, _, _, hl, m2⟩
    · exact .inl ⟨q, g', o', m1, m2⟩

theorem mapupdV_run {t : TypeId} (ht : mapKey P t = true) (hi : Inv num w F β ob) (a b c : AV) (r : AV × List Wr) (x y z : Value) (ha : RX num w F β a x) (hb : RX num w F β b y) (hc : RX num w F β c z) (h : (mapupdV a b c).run ob = some r) :
    ∃ w', (Instr.mapUpdate t x y z).run P w = .ok () w' ∧ Later w F β w' F β ∧ Chg w F (liveB β ob) w' F ∧ Inv num w' F β (wrsO ob r.2) ∧ r.1 = .und ∧ Tail w β ob β (wrsO ob r.2) tg := by
  unfold mapKey at ht
  split at ht
  case h_2 => cases ht
  rename_i kt e hu
  split at ht
  case h_2 => cases ht
  rename_i hks
  unfold mapupdV at h
  split at h
  · rename_i p g s
    have hget := MO.get_run h
    clear h
    obtain ⟨o, hl, h⟩ := hget
    split at h
    · rename_i es
      cases h
      obtain ⟨blk, hbk, rfl⟩ := ha.mp_inv
      have := hb.atom_inv
      subst this
      obtain ⟨q, hq, ho⟩ := hi.rep p g _ hl
      rw [hbk] at hq
      cases hq
      unfold ORep at ho
      obtain ⟨en, clk, hh, hr⟩ := ho
      have hlt : blk < w.heap.size := (hi.own p g _ blk hl hbk).2
      have hobj : (getObj blk).run P w = .ok (.map en clk) w := by simp [getObj, Sem.run, hh]
      have hset : ∀ o' : Obj, (setObj blk o').run P w = .ok () { w with heap := w.heap.setIfInBounds blk o' } := by intro o'; simp [setObj, Sem.run, hh]
      have hck : (Instr.checkKey false 10000 kt (.string s)).run P w = .ok () w := checkKey_string hks false 9999 s
      have hold : blkSize w blk = none := by unfold blkSize; rw [hh]
      obtain ⟨u1, u2⟩ := REnt_up s c z hc en.toList es hr
      rcases find_run s en.toList es 0 hr with ⟨g1, g2⟩ | ⟨j, b, e', g1, g2, g3, g4, g5⟩
      · have hfk : (Instr.findKey kt (.string s) en.toList).run P w = .ok none w := by simp [Instr.findKey, run_underlying hks, g2]
        obtain ⟨q1, q2, q3, q4⟩ := put_block (tg := tg) (o' := .map (upMap es s c)) (x := .map (en.push { key := .string s, val := z, born := clk }) (clk + 1)) hi hl hbk (w' := { w with heap := w.heap.setIfInBounds blk (.map (en.push { key := .string s, val := z, born := clk }) (clk + 1)) }) rfl rfl rfl rfl hold fun hlat => by
          unfold ORep
          exact ⟨en.push { key := .string s, val := z, born := clk }, clk + 1, by simp [hlt], by simpa using REnt.later hlat _ _ (u2 clk g1)⟩
        exact ⟨_, by simp [Instr.mapUpdate, run_underlying hu, hobj, hck, hfk, hset], q1, q2, q3, rfl, q4⟩
      · rw [Nat.zero_add] at g2
        have hfk : (Instr.findKey kt (.string s) en.toList).run P w = .ok (some (j, e'.val)) w := by simp [Instr.findKey, run_underlying hks, g2]
        have hej : en[j]? = some e' := by simpa using g3
        have hkey : (Instr.keyThatStays (((en[j]?).map (·.key)).getD (.string s)) (.string s)).run P w = .ok (.string s) w := by
          rw [hej]
          have hss : (s == s) = true := by rw [bytes_beq]; simp
          simp [Instr.keyThatStays, g4, Instr.sameBits, hss]
        obtain ⟨q1, q2, q3, q4⟩ := put_block (tg := tg) (o' := .map (upMap es s c)) (x := .map (en.modify j fun e => { e with key := .string s, val := z }) clk) hi hl hbk (w' := { w with heap := w.heap.setIfInBounds blk (.map (en.modify j fun e => { e with key := .string s, val := z }) clk) }) rfl rfl rfl rfl hold fun hlat => by
          unfold ORep
          exact ⟨en.modify j fun e => { e with key := .string s, val := z }, clk, by simp [hlt], by have := REnt.later hlat _ _ (u1 j e' b g1 g3 g2); simpa using this⟩
        exact ⟨_, by simp only [Instr.mapUpdate, Sem.run_bind, run_underlying hu, hobj, hck, hfk, hkey, hset, Result.andThen_ok], q1, q2, q3, rfl, q4⟩
    · cases h
  · cases h

/-- A new map. -/
theorem done_mkmap (hi : Inv num w F β ob) (hg : ∀ p, β p tg = none) {p : Nat} {t : TypeId} : Done P num (Instr.makeMap t none) w F β ob (up ob p (tg, .map [])) tg (.mp p tg) := by
  refine ⟨.map (some w.heap.size), w.alloc (.map #[] 0), F, β.set p tg (some w.heap.size), by simp [Instr.makeMap] <;> rfl, later_obj hi.fin hg p _ _, chg_obj _ _, inv_obj hi hg ?_, RX.of_single ?_ rfl, Tail.put fun b hb => by cases hb; exact .inr (Nat.le_refl _)⟩
  · unfold ORep
    exact ⟨#[], 0, heap_alloc_new w _, trivial⟩
  · unfold RC
    exact ⟨_, Beta.set_same _ _ _ _, rfl⟩
end
end Go.Fw
