import Derived.Test.YtniofejaoleipaaGreatDoorFwStore
/-
  More operations that look at no object.
-/
namespace Go.Fw
variable [YI]
section
variable {P : Program} {num : Nat → FuncId} {w : World} {F : Nat → Prop} {β : Beta}

omit [YI] in
theorem part_run {t : TypeId} {n : Nat} {ag : Bool} (ht : tyOk P t n ag = true) {a : AV} {c : List Value} {cs : Array Value} {pre post : List Value}
    (h : RC num w F β a c) (hf : a.fits n ag = true) (hcs : cs.toList = pre ++ c ++ post) : ∃ v, (part t cs pre.length).run P w = .ok v w ∧ RX num w F β a v := by
  simp only [tyOk, Bool.and_eq_true, decide_eq_true_eq] at ht
  obtain ⟨⟨hs, hpos⟩, hk⟩ := ht
  obtain ⟨h1, h2, h3⟩ := RX.of_cells h hf hpos
  obtain ⟨info, hinfo, hsz⟩ := Option.map_eq_some_iff.1 hs
  have hex : cs.extract pre.length (pre.length + n) = c.toArray := by
    apply Array.ext'
    rw [Array.toList_extract, hcs, List.extract_eq_take_drop, List.append_assoc, List.drop_left]
    simp [← h1]
  split at hk
  · rename_i d
    subst hk
    exact ⟨_, by simp [part, isAgg, run_underlying d, sizeOf, typeInfo, hinfo, hsz, hex], h2 rfl⟩
  · rename_i d
    subst hk
    exact ⟨_, by simp [part, isAgg, run_underlying d, sizeOf, typeInfo, hinfo, hsz, hex], h2 rfl⟩
  · rename_i d hn1 hn2 hd
    have : ag = false := by simpa using hk
    subst this
    obtain ⟨_, v, rfl, hv⟩ := h3 rfl
    have hc : cs[pre.length]? = some v := by
      rw [← Array.getElem?_toList, hcs]; simp
    refine ⟨v, ?_, hv⟩
    have hag : (isAgg t).run P w = .ok false w := by
      simp only [isAgg, Sem.run_bind, run_underlying hd, Result.andThen_ok]
      cases d <;> first | rfl | exact (hn1 _ rfl).elim | exact (hn2 _ _ rfl).elim
    simp only [part, Sem.run_bind, hag, Result.andThen_ok]
    simp [hc]
  · cases hk

omit [YI] in
theorem fldV_run {t : TypeId} {fs : Array Field} {f : Field} {ss : List Nat} {i n : Nat} {ag : Bool} (hd : P.underlying t = some (.struct fs)) (hf : fs[i]? = some f) (hn : ss[i]? = some n)
    (ho : f.offset = offN ss i) (ht : tyOk P f.type n ag = true) (a r : AV) (x : Value) (ha : RX num w F β a x) (h : fldV ss i ag a = some r) :
    ∃ v, (Instr.field t x i).run P w = .ok v w ∧ RX num w F β r v := by
  unfold fldV at h
  split at h
  · rename_i ss' gs
    split at h
    · rename_i he
      subst he
      obtain ⟨g, hg, h⟩ := Option.bind_eq_some_iff.1 h
      split at h
      · rename_i hag
        cases h
        obtain ⟨cs, h1, h2⟩ := ha
        rcases h1 with ⟨rfl, _⟩ | ⟨_, h1⟩
        · unfold RC at h2
          obtain ⟨pre, c, post, h5, h6, h7, h8⟩ := RCf_get _ _ _ _ _ h2 hg
          rw [hn] at h8
          cases h8
          obtain ⟨v, hv, hx⟩ := part_run (P := P) ht h7 (by simp [AV.fits, RC_len _ _ h7, hag]) h5
          refine ⟨v, ?_, hx⟩
          rw [h6, ← ho] at hv
          simp [Instr.field, run_underlying hd, hf, asAgg, hv]
        · simp [AV.isAgg] at h1
      · cases h
    · cases h
  · cases h

omit [YI] in
theorem bd_spec {j : AV} {n m : Nat} {y : Value} (hj : RX num w F β j y) (h : j.bd n = some m) : ∃ k, y = .int k (m : Int) ∧ m ≤ n := by
  unfold AV.bd at h
  split at h
  · have := hj.atom_inv
    subst this
    split at h
    · rename_i k q hq
      cases h
      refine ⟨k, ?_, by omega⟩
      have : (q.toNat : Int) = q := by omega
      rw [this]
    · cases h
  · cases h

omit [YI] in
theorem bytes_get (s : ByteArray) (m : Nat) : s[m]? = s.data.toList[m]? := by
  rw [Array.getElem?_toList]
  by_cases h : m < s.size
  · have h' : m < s.data.size := h
    rw [getElem?_pos s m h, getElem?_pos s.data m h']
    rfl
  · have h' : ¬ m < s.data.size := h
    rw [getElem?_neg s m h, getElem?_neg s.data m h']

omit [YI] in
theorem idxV_run {t : TypeId} (hd : P.underlying t = some .string) (a j r : AV) (x y : Value) (ha : RX num w F β a x) (hj : RX num w F β j y) (h : idxV a j = some r) :
    ∃ v, (Instr.index t x y).run P w = .ok v w ∧ RX num w F β r v := by
  unfold idxV at h
  split at h
  · rename_i s
    have := ha.atom_inv
    subst this
    obtain ⟨m, hm, h⟩ := Option.bind_eq_some_iff.1 h
    obtain ⟨c, hc, rfl⟩ := Option.map_eq_some_iff.1 h
    obtain ⟨ik, rfl, hlt⟩ := ix_spec hj hm
    refine ⟨_, ?_, RX.of_atom rfl⟩
    have h0 : (0 : Int) ≤ (m : Int) := by omega
    have hc' : s[m]? = some c := by rw [bytes_get]; exact hc
    simp [Instr.index, asIntOf, run_underlying hd, hc']
  · cases h

/-- A bound that may be left out. -/
def RXo (num : Nat → FuncId) (w : World) (F : Nat → Prop) (β : Beta) : Option AV → Option Value → Prop
  | none, none => True
  | some a, some v => RX num w F β a v
  | _, _ => False

omit [YI] in
theorem bound_run {j : AV} {n m : Nat} {y : Value} (hj : RX num w F β j y) (h : j.bd n = some m) {n' : Nat} (hn : n ≤ n') (code : BoundsCode) :
    (Instr.sliceBound y n' code).run P w = .ok m w := by
  obtain ⟨k, rfl, hle⟩ := bd_spec hj h
  have : (m : Int) ≤ (n' : Int) := by omega
  simp [Instr.sliceBound, asIntOf, this]

omit [YI] in
theorem bounds_run (isSlice : Bool) (len cap : Nat) (hc : len ≤ cap) (lo hi : Option AV) (vlo vhi : Option Value) {h l : Nat}
    (hh : (match hi with | none => some len | some b => b.bd len) = some h) (hl : (match lo with | none => some 0 | some b => b.bd h) = some l)
    (hlo : RXo num w F β lo vlo) (hhi : RXo num w F β hi vhi) :
    (Instr.sliceBounds isSlice len cap vlo vhi none).run P w = .ok (l, h, cap) w ∧ h ≤ len ∧ l ≤ h := by
  have k1 : h ≤ len := by
    cases hi with
    | none => cases hh; exact Nat.le_refl _
    | some b => cases vhi with
      | none => exact hhi.elim
      | some v => exact (bd_spec (num := num) (w := w) (F := F) (β := β) hhi hh).elim fun _ h => h.2
  have k2 : l ≤ h := by
    cases lo with
    | none => cases hl; exact Nat.zero_le _
    | some b => cases vlo with
      | none => exact hlo.elim
      | some v => exact (bd_spec (num := num) (w := w) (F := F) (β := β) hlo hl).elim fun _ h => h.2
  refine ⟨?_, k1, k2⟩
  cases hi with
  | none =>
    cases vhi with
    | some v => exact hhi.elim
    | none =>
      cases hh
      cases lo with
      | none =>
        cases vlo with
        | some v => exact hlo.elim
        | none => cases hl; simp [Instr.sliceBounds]
      | some b =>
        cases vlo with
        | none => exact hlo.elim
        | some v => simp [Instr.sliceBounds, bound_run (P := P) hlo hl (Nat.le_refl _)]
  | some c =>
    cases vhi with
    | none => exact hhi.elim
    | some u =>
      cases lo with
      | none =>
        cases vlo with
        | some v => exact hlo.elim
        | none => cases hl; simp [Instr.sliceBounds, bound_run (P := P) hhi hh hc]
      | some b =>
        cases vlo with
        | none => exact hlo.elim
        | some v => simp [Instr.sliceBounds, bound_run (P := P) hhi hh hc, bound_run (P := P) hlo hl (Nat.le_refl _)]

omit [YI] in
theorem RCk_take (k : Nat) : ∀ (xs : List AV) (cs : List Value) (n : Nat), RCk num w F β k xs cs → ∃ c1 c2, cs = c1 ++ c2 ∧ c1.length = (min n xs.length) * k ∧ RCk num w F β k (xs.take n) c1 ∧ RCk num w F β k (xs.drop n) c2
  | [], cs, n, h => ⟨[], cs, rfl, by simp, by simp; unfold RCk; rfl, by simpa using h⟩
  | x :: xs, cs, 0, h => ⟨[], cs, rfl, by simp, by simp; unfold RCk; rfl, by simpa using h⟩
  | x :: xs, cs, n + 1, h => by
    unfold RCk at h
    obtain ⟨c1, c2, rfl, h2, h3, h4⟩ := h
    obtain ⟨d1, d2, rfl, h5, h6, h7⟩ := RCk_take k xs c2 n h4
    refine ⟨c1 ++ d1, d2, by simp, ?_, ?_, by simpa using h7⟩
    · rw [List.length_append, h2, h5]
      have : min (n + 1) (x :: xs).length = min n xs.length + 1 := by simp
      rw [this, Nat.succ_mul]; omega
    · simp only [List.take_succ_cons]
      unfold RCk
      exact ⟨c1, d1, rfl, h2, h3, h6⟩

/-- What the type of a slice or a string says of k. -/
def slOk (P : Program) (t : TypeId) (k : Nat) : Bool :=
  match P.underlying t with
  | some .string => k == 0
  | some (.slice e) => decide ((P.info? e).map (·.size) = some k) && k != 0
  | _ => false

omit [YI] in
theorem slcV_run {t : TypeId} {k : Nat} (ht : slOk P t k = true) (a r : AV) (x : Value) (lo hi : Option AV) (vlo vhi : Option Value) (hlo : RXo num w F β lo vlo) (hhi : RXo num w F β hi vhi)
    (ha : RX num w F β a x) (h : slcV k a lo hi = some r) : ∃ v, (Instr.sliceAt t x vlo vhi none).run P w = .ok v w ∧ RX num w F β r v := by
  unfold slcV at h
  rw [Option.bind_eq_some_iff] at h
  obtain ⟨n, hn, h⟩ := h
  rw [Option.bind_eq_some_iff] at h
  obtain ⟨q, hq, h⟩ := h
  rw [Option.bind_eq_some_iff] at h
  obtain ⟨l, hl, h⟩ := h
  unfold slOk at ht
  have hrun : ∀ (e : TypeId) (info : TypeInfo), P.underlying t = some (.slice e) → P.info? e = some info → info.size = k → ∀ (ad : Option Addr) (cap : Nat), n ≤ cap →
      (Instr.sliceAt t (.slice ad n cap) vlo vhi none).run P w = .ok (.slice (if cap = l then ad else ad.map (·.add (l * k))) (q - l) (cap - l)) w ∧ q ≤ n ∧ l ≤ q := by
    intro e info hd hi' hk ad cap hc
    obtain ⟨b1, b2, b3⟩ := bounds_run (P := P) true n cap hc lo hi vlo vhi hq hl hlo hhi
    refine ⟨?_, b2, b3⟩
    simp [Instr.sliceAt, Instr.slice, run_underlying hd, b1, sizeOf, typeInfo, hi', hk]
  split at h
  · rename_i k' xs
    split at h
    · rename_i he
      obtain ⟨rfl, hk0⟩ := he
      cases h
      simp only [lenN, Option.some.injEq] at hn
      subst hn
      split at ht
      · simp at ht; exact (hk0 ht).elim
      · rename_i e hd
        simp only [Bool.and_eq_true, decide_eq_true_eq] at ht
        obtain ⟨info, hinfo, hsz⟩ := Option.map_eq_some_iff.1 ht.1
        have h1 := ha.single (by simp) (by simp) rfl
        unfold RC at h1
        rcases h1 with ⟨hx, rfl⟩ | ⟨ad, cap, ds, hx, hcap, hr, hc⟩
        · simp only [List.cons.injEq, and_true] at hx
          subst hx
          obtain ⟨b1, b2, b3⟩ := hrun e info hd hinfo hsz none 0 (Nat.le_refl _)
          refine ⟨_, b1, RX.of_single ?_ rfl⟩
          unfold RC
          simp at b2 b3
          subst b2
          simp at b3
          subst b3
          exact .inl ⟨by simp, by simp⟩
        · simp only [List.cons.injEq, and_true] at hx
          subst hx
          obtain ⟨b1, b2, b3⟩ := hrun e info hd hinfo hsz (some ad) cap hcap
          refine ⟨_, b1, RX.of_single ?_ rfl⟩
          obtain ⟨c1, c2, rfl, h5, h6, h7⟩ := RCk_take k' xs ds q hc
          obtain ⟨d1, d2, rfl, h8, h9, h10⟩ := RCk_take k' (xs.take q) c1 l h6
          unfold RC
          refine .inr ⟨if cap = l then ad else ad.add (l * k'), cap - l, d2, ?_, ?_, ?_, ?_⟩
          · split <;> simp [Nat.min_eq_left b2]
          · simp; omega
          · by_cases he : cap = l
            · simp only [he, if_true]
              have : d2 = [] := by
                have : q = l := by omega
                subst this
                have := h10
                simp [List.drop_take] at this
                unfold RCk at this
                exact this
              subst this
              exact ⟨fun h => (h rfl).elim, fun h => (h rfl).elim, by simp⟩
            · simp only [he, if_false]
              have hlen : d1.length = l * k' := by rw [h8]; simp; rw [Nat.min_eq_left (by omega)]
              have := Row.part (w := w) (F := F) (a := ad) (pre := d1) (c := d2) (post := c2) (by simpa using hr)
              rw [hlen] at this
              exact this
          · exact h10
      · cases ht
    · cases h
  · rename_i p g k' off m
    split at h
    · rename_i he
      obtain ⟨rfl, hk0⟩ := he
      cases h
      simp only [lenN, Option.some.injEq] at hn
      subst hn
      split at ht
      · simp at ht; exact (hk0 ht).elim
      · rename_i e hd
        simp only [Bool.and_eq_true, decide_eq_true_eq] at ht
        obtain ⟨info, hinfo, hsz⟩ := Option.map_eq_some_iff.1 ht.1
        have h1 := ha.single (by simp) (by simp) rfl
        unfold RC at h1
        rcases h1 with ⟨y, hy, hx, h0⟩ | ⟨b, cap, sz, hb, hx, hcap, hmax, hsize, hfit⟩
        · simp only [List.cons.injEq, and_true] at hx
          subst hx
          subst h0
          obtain ⟨b1, b2, b3⟩ := hrun e info hd hinfo hsz y 0 (Nat.le_refl _)
          refine ⟨_, b1, RX.of_single ?_ rfl⟩
          unfold RC
          have hq0 : q = 0 := by omega
          have hl0 : l = 0 := by omega
          subst hq0
          subst hl0
          exact .inl ⟨y, hy, by simp, by simp⟩
        · simp only [List.cons.injEq, and_true] at hx
          subst hx
          obtain ⟨b1, b2, b3⟩ := hrun e info hd hinfo hsz (some ⟨b, off * k', none⟩) cap hcap
          refine ⟨_, b1, RX.of_single ?_ rfl⟩
          unfold RC
          by_cases he : cap = l
          · left
            refine ⟨some ⟨b, off * k', none⟩, by rintro a ⟨⟩; rfl, ?_, by omega⟩
            have e1 : q - l = 0 := by omega
            have e2 : cap - l = 0 := by omega
            simp [he, e1]
          · right
            refine ⟨b, cap - l, sz, hb, ?_, by omega, by omega, hsize, ?_⟩
            · simp only [he, if_false, Option.map_some]
              rw [add_plain rfl, Nat.add_mul]
            · have : off + l + (cap - l) = off + cap := by omega
              rw [this]; exact hfit
      · cases ht
    · cases h
  · rename_i s
    split at h
    · rename_i hk
      subst hk
      cases h
      have := ha.atom_inv
      subst this
      simp only [lenN, Option.some.injEq] at hn
      subst hn
      split at ht
      · rename_i hd
        obtain ⟨b1, b2, b3⟩ := bounds_run (P := P) false s.size s.size (Nat.le_refl _) lo hi vlo vhi hq hl hlo hhi
        refine ⟨_, ?_, RX.of_atom rfl⟩
        simp [Instr.sliceAt, Instr.slice, run_underlying hd, b1]
      · simp at ht
      · cases ht
    · cases h
  · split at h
    · rename_i hk0
      cases h
      cases hn
      split at ht
      · simp at ht; exact (hk0 ht).elim
      · rename_i e hd
        simp only [Bool.and_eq_true, decide_eq_true_eq] at ht
        obtain ⟨info, hinfo, hsz⟩ := Option.map_eq_some_iff.1 ht.1
        have h1 := ha.single (by simp) (by simp) rfl
        unfold RC at h1
        simp only [List.cons.injEq, and_true] at h1
        subst h1
        obtain ⟨b1, b2, b3⟩ := hrun e info hd hinfo hsz none 0 (Nat.le_refl _)
        refine ⟨_, b1, ?_⟩
        have hq0 : q = 0 := by omega
        have hl0 : l = 0 := by omega
        subst hq0
        subst hl0
        simpa using ha
      · cases ht
    · cases h
  · split at h
    · rename_i hk0
      cases h
      cases hn
      split at ht
      · simp at ht; exact (hk0 ht).elim
      · rename_i e hd
        simp only [Bool.and_eq_true, decide_eq_true_eq] at ht
        obtain ⟨info, hinfo, hsz⟩ := Option.map_eq_some_iff.1 ht.1
        have h1 := ha.single (by simp) (by simp) rfl
        unfold RC at h1
        obtain ⟨ad, _, h1⟩ := h1
        simp only [List.cons.injEq, and_true] at h1
        subst h1
        obtain ⟨b1, b2, b3⟩ := hrun e info hd hinfo hsz (some ad) 0 (Nat.le_refl _)
        refine ⟨_, b1, ?_⟩
        have hq0 : q = 0 := by omega
        have hl0 : l = 0 := by omega
        subst hq0
        subst hl0
        simpa using ha
      · cases ht
    · cases h
  · cases h

/-- What the type says of a length: is it a string? -/
def lenOk (P : Program) (t : TypeId) (str : Bool) : Bool :=
  match P.underlying t with
  | some .string => str
  | some (.slice _) => !str
  | _ => false

omit [YI] in
theorem lenV_run {t ty : TypeId} {str : Bool} (ht : lenOk P t str = true) (a r : AV) (x : Value) (ha : RX num w F β a x) (h : lenV str a = some r) :
    ∃ v, (Builtin.len_ #[t] ty #[x]).run P w = .ok v w ∧ RX num w F β r v := by
  unfold lenV at h
  obtain ⟨n, hn, h⟩ := Option.bind_eq_some_iff.1 h
  split at h
  · rename_i hs
    cases h
    refine ⟨goInt n, ?_, RX.of_atom rfl⟩
    unfold lenOk at ht
    split at ht
    · rename_i hd
      subst ht
      cases a <;> simp [AV.isStr] at hs
      rename_i v
      have := ha.atom_inv
      subst this
      cases x <;> simp [lenN] at hn
      subst hn
      simp [Builtin.len_, run_underlying hd]
    · rename_i e hd
      simp at ht
      subst ht
      have : ∃ ad cap, x = .slice ad n cap := by
        cases a <;> simp [lenN] at hn <;> first | (simp [AV.isStr] at hs; done) | skip
        · subst hn
          have h1 := ha.single (by simp) (by simp) rfl
          unfold RC at h1
          rcases h1 with ⟨hx, rfl⟩ | ⟨ad, cap, ds, hx, _⟩
          · simp only [List.cons.injEq, and_true] at hx; exact ⟨_, _, hx⟩
          · simp only [List.cons.injEq, and_true] at hx; exact ⟨_, _, hx⟩
        · subst hn
          have h1 := ha.single (by simp) (by simp) rfl
          unfold RC at h1
          rcases h1 with ⟨y, _, hx, rfl⟩ | ⟨b, cap, sz, hb, hx, _⟩
          · simp only [List.cons.injEq, and_true] at hx; exact ⟨_, _, hx⟩
          · simp only [List.cons.injEq, and_true] at hx; exact ⟨_, _, hx⟩
        · subst hn
          have h1 := ha.single (by simp) (by simp) rfl
          unfold RC at h1
          simp only [List.cons.injEq, and_true] at h1
          exact ⟨_, _, h1⟩
        · subst hn
          have h1 := ha.single (by simp) (by simp) rfl
          unfold RC at h1
          obtain ⟨ad, _, h1⟩ := h1
          simp only [List.cons.injEq, and_true] at h1
          exact ⟨_, _, h1⟩
      obtain ⟨ad, cap, rfl⟩ := this
      simp [Builtin.len_, run_underlying hd]
    · cases ht
  · cases h

omit [YI] in
theorem mmFold_run (mx : Bool) : ∀ (bs : List AV) (vs : List Value) (a r : AV) (x : Value), RX num w F β a x → RCv num w F β bs vs → mmFold mx a bs = some r →
    ∃ v, (vs.foldlM (if mx then Builtin.max2 else Builtin.min2) x).run P w = .ok v w ∧ RX num w F β r v
  | [], vs, a, r, x, ha, hb, h => by
    unfold RCv at hb
    subst hb
    have : a = r := by unfold mmFold at h; cases a <;> first | (cases h; rfl)
    subst this
    exact ⟨x, by simp, ha⟩
  | b :: bs, vs, a, r, x, ha, hb, h => by
    obtain ⟨v, r', rfl, h2, h3⟩ := RCv_cons.1 hb
    unfold mmFold at h
    split at h
    · rename_i heq; cases heq
    · rename_i k q k' y _ heq
      cases heq
      split at h
      · rename_i hk
        subst hk
        have e1 := ha.atom_inv
        have e2 := h2.atom_inv
        subst e1
        subst e2
        obtain ⟨u, hu1, hu2⟩ := mmFold_run mx bs r' _ r _ (RX.of_atom rfl) h3 h
        refine ⟨u, ?_, hu2⟩
        rw [List.foldlM_cons]
        cases mx with
        | true => simpa [Builtin.max2] using hu1
        | false => simpa [Builtin.min2] using hu1
      · cases h
    · cases h

omit [YI] in
theorem nilchkV_run {o : Oper} {act : Act} {x : Operand} (ho : o.op = .nilCheck x) (a r : AV) (ha : RX num w F β a (act.eval x)) (h : nilchkV a = some r) :
    ∃ v, (execOp act.eval o).run P w = .ok (.value v) w ∧ RX num w F β r v := by
  unfold nilchkV at h
  split at h
  · cases h
    have h1 := ha.single (by simp) (by simp) rfl
    unfold RC at h1
    obtain ⟨b, _, h1⟩ := h1
    simp only [List.cons.injEq, and_true] at h1
    exact ⟨act.eval x, by simp [execOp, ho, h1], ha⟩
  · cases h
    have h1 := ha.single (by simp) (by simp) rfl
    unfold RC at h1
    obtain ⟨b, _, h1, _⟩ := h1
    simp only [List.cons.injEq, and_true] at h1
    exact ⟨act.eval x, by simp [execOp, ho, h1], ha⟩
  · cases h
    have h1 := ha.single (by simp) (by simp) rfl
    unfold RC at h1
    obtain ⟨b, h1, _⟩ := h1
    simp only [List.cons.injEq, and_true] at h1
    exact ⟨act.eval x, by simp [execOp, ho, h1], ha⟩
  · cases h
end
end Go.Fw
