import Derived.Test.YtniofejaoleipaaGreatDoorFwMem
/-
  Writing memory.
-/
namespace Go.Fw
variable [YI]
section
variable {P : Program} {num : Nat → FuncId} {w w' : World} {F : Nat → Prop} {β : Beta} {ob : Ob}

omit [YI] in
theorem RCf_set : ∀ (ss : List Nat) (fs : List AV) (cs : List Value) (i : Nat) (f : AV), RCf num w F β ss fs cs → fs[i]? = some f →
    ∃ pre c post, cs = pre ++ c ++ post ∧ pre.length = offN ss i ∧ RC num w F β f c ∧
      ∀ f' c', c'.length = c.length → RC num w F β f' c' → RCf num w F β ss (fs.set i f') (pre ++ c' ++ post)
  | [], [], _, _, _, _, hi => by simp at hi
  | n :: ss, g :: fs, cs, i, f, h, hi => by
    unfold RCf at h
    obtain ⟨c1, c2, rfl, h2, h3, h4⟩ := h
    cases i with
    | zero =>
      simp only [List.getElem?_cons_zero, Option.some.injEq] at hi
      subst hi
      refine ⟨[], c1, c2, by simp, by simp [offN], h3, fun f' c' hl hc => ?_⟩
      simp only [List.set_cons_zero, List.nil_append]
      unfold RCf
      exact ⟨c', c2, rfl, hl.trans h2, hc, h4⟩
    | succ i =>
      simp only [List.getElem?_cons_succ] at hi
      obtain ⟨pre, c, post, rfl, h6, h7, h8⟩ := RCf_set ss fs c2 i f h4 hi
      refine ⟨c1 ++ pre, c, post, by simp, by simp [offN, h2, h6], h7, fun f' c' hl hc => ?_⟩
      simp only [List.set_cons_succ]
      unfold RCf
      exact ⟨c1, pre ++ c' ++ post, by simp, h2, h3, h8 f' c' hl hc⟩
  | [], _ :: _, _, _, _, h, _ => by unfold RCf at h; exact h.elim
  | _ :: _, [], _, _, _, h, _ => by unfold RCf at h; exact h.elim

omit [YI] in
theorem RCk_set (k : Nat) : ∀ (xs : List AV) (cs : List Value) (i : Nat) (x : AV), RCk num w F β k xs cs → xs[i]? = some x →
    ∃ pre c post, cs = pre ++ c ++ post ∧ pre.length = i * k ∧ RC num w F β x c ∧
      ∀ x' c', c'.length = c.length → RC num w F β x' c' → RCk num w F β k (xs.set i x') (pre ++ c' ++ post)
  | [], _, _, _, _, hi => by simp at hi
  | g :: xs, cs, i, x, h, hi => by
    unfold RCk at h
    obtain ⟨c1, c2, rfl, h2, h3, h4⟩ := h
    cases i with
    | zero =>
      simp only [List.getElem?_cons_zero, Option.some.injEq] at hi
      subst hi
      refine ⟨[], c1, c2, by simp, by simp, h3, fun f' c' hl hc => ?_⟩
      simp only [List.set_cons_zero, List.nil_append]
      unfold RCk
      exact ⟨c', c2, rfl, hl.trans h2, hc, h4⟩
    | succ i =>
      simp only [List.getElem?_cons_succ] at hi
      obtain ⟨pre, c, post, rfl, h6, h7, h8⟩ := RCk_set k xs c2 i x h4 hi
      refine ⟨c1 ++ pre, c, post, by simp, ?_, h7, fun f' c' hl hc => ?_⟩
      · rw [List.length_append, h2, h6, Nat.succ_mul, Nat.add_comm]
      · simp only [List.set_cons_succ]
        unfold RCk
        exact ⟨c1, pre ++ c' ++ post, by simp, h2, h3, h8 f' c' hl hc⟩

omit [YI] in
theorem setAt_cells {y : AV} {ds : List Value} (hy : RC num w F β y ds) : ∀ (path : List Nat) (a : AV) (n off : Nat) (a' : AV) (cs : List Value), a.setAt path n y = some (off, a') → RC num w F β a cs →
    ∃ pre c post, cs = pre ++ c ++ post ∧ off = n + pre.length ∧ c.length = ds.length ∧ RC num w F β a' (pre ++ ds ++ post)
  | [], a, n, off, a', cs, h, hr => by
    unfold AV.setAt at h
    split at h
    · rename_i hs
      cases h
      exact ⟨[], cs, [], by simp, by simp, by rw [RC_len _ _ hr, RC_len _ _ hy, hs], by simpa using hy⟩
    · cases h
  | i :: r, a, n, off, a', cs, h, hr => by
    unfold AV.setAt at h
    split at h
    · rename_i ss fs
      split at h
      · rename_i f hf
        split at h
        · rename_i p hp
          cases h
          unfold RC at hr
          obtain ⟨pre, c, post, rfl, h2, h3, h4⟩ := RCf_set _ _ _ _ _ hr hf
          obtain ⟨pre', c', post', rfl, h5, h6, h7⟩ := setAt_cells hy r f _ p.1 p.2 c hp h3
          refine ⟨pre ++ pre', c', post' ++ post, by simp, by rw [h5, List.length_append, h2]; omega, h6, ?_⟩
          unfold RC
          have := h4 p.2 (pre' ++ ds ++ post') (by simp [h6]) h7
          simpa using this
        · cases h
      · cases h
    · cases h

omit [YI] in
mutual
theorem RC_one : ∀ (a : AV) (cs : List Value), RC num w F β a cs → ∀ v ∈ cs, v.oneCell' = true
  | .agg ss fs, cs, h => by unfold RC at h; exact RCf_one ss fs cs h
  | .v x, cs, h => by
    unfold RC at h
    obtain ⟨rfl, h⟩ := h
    intro v hv
    simp only [List.mem_singleton] at hv
    subst hv
    unfold atom at h
    split at h <;> first | rfl | (cases h)
  | .sl k xs, cs, h => by unfold RC at h; rcases h with ⟨rfl, _⟩ | ⟨_, _, _, rfl, _⟩ <;> simp [Value.oneCell']
  | .tup _, cs, h => by unfold RC at h; subst h; simp
  | .fn _ _, cs, h => by unfold RC at h; obtain ⟨_, rfl, _⟩ := h; simp [Value.oneCell']
  | .cptr _, cs, h => by unfold RC at h; obtain ⟨_, _, rfl, _⟩ := h; simp [Value.oneCell']
  | .ptr .., cs, h => by unfold RC at h; obtain ⟨_, _, rfl⟩ := h; simp [Value.oneCell']
  | .own .., cs, h => by unfold RC at h; rcases h with ⟨_, _, rfl, _⟩ | ⟨_, _, _, _, rfl, _⟩ <;> simp [Value.oneCell']
  | .mp .., cs, h => by unfold RC at h; obtain ⟨_, _, rfl⟩ := h; simp [Value.oneCell']
  | .yl .., cs, h => by unfold RC at h; obtain ⟨_, _, rfl⟩ := h; simp [Value.oneCell']
  | .nil, cs, h => by unfold RC at h; subst h; simp [Value.oneCell']
  | .e0, cs, h => by unfold RC at h; obtain ⟨_, _, rfl⟩ := h; simp [Value.oneCell']
  | .und, cs, h => by unfold RC at h; subst h; simp
theorem RCf_one : ∀ (ss : List Nat) (fs : List AV) (cs : List Value), RCf num w F β ss fs cs → ∀ v ∈ cs, v.oneCell' = true
  | [], [], cs, h => by unfold RCf at h; subst h; simp
  | n :: ss, f :: fs, cs, h => by
    unfold RCf at h
    obtain ⟨c1, c2, rfl, _, h3, h4⟩ := h
    intro v hv
    rcases List.mem_append.1 hv with hv | hv
    · exact RC_one f c1 h3 v hv
    · exact RCf_one ss fs c2 h4 v hv
  | [], _ :: _, _, h => by unfold RCf at h; exact h.elim
  | _ :: _, [], _, h => by unfold RCf at h; exact h.elim
end

omit [YI] in
theorem RCk_one (k : Nat) : ∀ (xs : List AV) (cs : List Value), RCk num w F β k xs cs → ∀ v ∈ cs, v.oneCell' = true
  | [], cs, h => by unfold RCk at h; subst h; simp
  | x :: xs, cs, h => by
    unfold RCk at h
    obtain ⟨c1, c2, rfl, _, h3, h4⟩ := h
    intro v hv
    rcases List.mem_append.1 hv with hv | hv
    · exact RC_one x c1 h3 v hv
    · exact RCk_one k xs c2 h4 v hv

/-- One of the held blocks is written; its size stays. -/
structure Wrote (w w' : World) (b : Nat) : Prop where
  os : w'.os = w.os
  tape : w'.tape = w.tape
  output : w'.output = w.output
  heap : w'.heap.size = w.heap.size
  block : ∀ k, k ≠ b → w'.heap[k]? = w.heap[k]?
  size : ∀ m, blkSize w b = some m → blkSize w' b = some m

omit [YI] in
theorem Wrote.later {b : Nat} (h : Wrote w w' b) (hb : ¬ F b) : Later w F β w' F β :=
  ⟨fun _ h => h, fun k hk => h.block k (fun e => hb (e ▸ hk)), fun k m hm => by
    by_cases he : k = b
    · subst he; exact h.size m hm
    · unfold blkSize; rw [h.block k he]; exact hm, fun _ _ _ h => h⟩

omit [YI] in
theorem Wrote.chg {b : Nat} (h : Wrote w w' b) {M : Nat → Prop} (hM : M b) : Chg w F M w' F :=
  ⟨h.os, h.tape, h.output, Nat.le_of_eq h.heap.symm, fun k _ hn => h.block k (fun e => hn (e ▸ hM)), fun _ h => .inl h⟩

theorem Wrote.inv {p g b : Nat} {o o' : AObj} (h : Wrote w w' b) (hi : Inv num w F β ob) (hl : lk ob p = some (g, o)) (hb : β p g = some (some b)) (ho : ORep num w' F β (some b) o') :
    Inv num w' F β (up ob p (g, o')) := by
  have hnf := hi.own p g o b hl hb
  have hlat := h.later (β := β) (F := F) hnf.1
  refine ⟨fun k hk => by rw [h.heap]; exact hi.fin k hk, fun q g' x hq => ?_, fun q g' x c hq hc => ?_, fun q g' x q' g'' x' c hq hq' hc hc' => ?_⟩
  · rw [lk_up] at hq
    split at hq
    · rename_i e
      subst e
      cases hq
      exact ⟨some b, hb, ho⟩
    · rename_i hne
      obtain ⟨y, hy, hz⟩ := hi.rep q g' x hq
      refine ⟨y, hy, hz.later hlat fun c hc => h.block c fun e => hne ?_⟩
      subst hc
      subst e
      exact hi.inj _ _ _ _ _ _ _ hq hl hy hb
  · rw [lk_up] at hq
    rw [h.heap]
    split at hq
    · rename_i e; subst e; cases hq; rw [hb] at hc; cases hc; exact hnf
    · exact hi.own q g' x c hq hc
  · rw [lk_up] at hq hq'
    have hold : ∀ q0 g0 x0, (if q0 = p then some (g, o') else lk ob q0) = some (g0, x0) → ∃ y, lk ob q0 = some (g0, y) := by
      intro q0 g0 x0 h0
      by_cases e : q0 = p
      · rw [if_pos e] at h0
        cases h0
        exact ⟨o, e ▸ hl⟩
      · rw [if_neg e] at h0
        exact ⟨x0, h0⟩
    obtain ⟨y, hy⟩ := hold _ _ _ hq
    obtain ⟨y', hy'⟩ := hold _ _ _ hq'
    exact hi.inj _ _ _ _ _ _ _ hy hy' hc hc'

omit [YI] in
theorem wrote_setRow {b : Nat} {c cs : Array Value} {e : TypeId} (h : w.heap[b]? = some (.cells c e (0, 0))) (hs : cs.size = c.size) : Wrote w (w.setRow b cs) b := by
  refine ⟨rfl, rfl, rfl, by simp [World.setRow], fun k hk => setRow_other w b k cs hk, fun m hm => ?_⟩
  unfold blkSize at hm ⊢
  rw [h] at hm
  rw [setRow_heap w b c cs e (0, 0) h]
  simp only [Option.some.injEq] at hm ⊢
  omega

omit [YI] in
theorem toArray_size_mid {c : Array Value} {pre old post ds : List Value} (h : c.toList = pre ++ old ++ post) (hl : old.length = ds.length) : (pre ++ ds ++ post).toArray.size = c.size := by
  have := congrArg List.length h
  simp at this
  simp [← hl]
  omega

omit [YI] in
/-- The cells of a value. -/
theorem RX.cells {a : AV} {v : Value} (h : RX num w F β a v) (hu : a.size ≠ 0) : RC num w F β a v.cells.toList := by
  obtain ⟨cs, h1, h2⟩ := h.one (fun e => hu (by rw [e]; rfl)) (fun vs e => hu (by rw [e]; rfl))
  rcases h1 with ⟨rfl, _⟩ | ⟨rfl, hg⟩
  · exact h2
  · have hv := RC_one _ _ h2 v (by simp)
    cases v <;> first | exact h2 | (simp [Value.oneCell'] at hv)

theorem storeV_run {t : TypeId} {n : Nat} (ht : (P.info? t).map (·.size) = some n) (hi : Inv num w F β ob) (a b r : AV) (x y : Value) (wr : List Wr) (ha : RX num w F β a x) (hb : RX num w F β b y)
    (hpos : 0 < n) (h : (storeV n a b).run ob = some (r, wr)) :
    ∃ w', (Instr.storeAt t x y).run P w = .ok () w' ∧ Later w F β w' F β ∧ Chg w F (liveB β ob) w' F ∧ Inv num w' F β (wrsO ob wr) ∧ r = .und ∧ (∀ b, liveB β (wrsO ob wr) b → liveB β ob b) := by
  unfold storeV at h
  split at h
  · rename_i p g path off
    split at h
    case isFalse => cases h
    rename_i hn
    have h1 := ha.single (by simp) (by simp) rfl
    unfold RC at h1
    obtain ⟨blk, hbk, hx⟩ := h1
    simp only [List.cons.injEq, and_true] at hx
    subst hx
    unfold MO.run at h
    split at h
    · rename_i g' o hl
      split at h
      · rename_i hg
        subst hg
        dsimp only at h
        cases hq : o.setAt path b with
        | none => rw [hq] at h; cases h
        | some q =>
          rw [hq] at h
          simp only [opt_some] at h
          split at h
          · rename_i hc
            subst hc
            cases h
            obtain ⟨z, hz, ho⟩ := hi.rep p g o hl
            rw [hbk] at hz
            cases hz
            have hcy := hb.cells (by omega)
            have hlen : y.cells.toList.length = n := by rw [RC_len _ _ hcy, hn]
            have hone := RC_one _ _ hcy
            obtain ⟨info, hinfo, hsz⟩ := Option.map_eq_some_iff.1 ht
            -- the block's cells, cut
            have key : ∃ (c : Array Value) (e : TypeId) (pre old post : List Value), w.heap[blk]? = some (.cells c e (0, 0)) ∧ c.toList = pre ++ old ++ post ∧ q.1 = pre.length ∧ old.length = n ∧
                ∀ w' : World, Later w F β w' F β → w'.heap[blk]? = some (.cells (pre ++ y.cells.toList ++ post).toArray e (0, 0)) → ORep num w' F β (some blk) q.2 := by
              unfold AObj.setAt at hq
              split at hq
              · rename_i z
                obtain ⟨q', hq', rfl⟩ := Option.map_eq_some_iff.1 hq
                unfold ORep at ho
                obtain ⟨c, e, hh, hc⟩ := ho
                have hc : RC num w F β z c.toList := by
                  rcases hc with hc | hc
                  · exact hc
                  · exfalso
                    cases path with
                    | cons i r => rcases hc with rfl | ⟨as, rfl⟩ <;> (unfold AV.setAt at hq'; cases hq')
                    | nil =>
                      unfold AV.setAt at hq'
                      split at hq'
                      · rename_i hs
                        rw [hn] at hs
                        rcases hc with rfl | ⟨as, rfl⟩ <;> (simp [AV.size] at hs; omega)
                      · cases hq'
                obtain ⟨pre, old, post, h2, h3, h4, h5⟩ := setAt_cells hcy _ _ _ _ _ _ hq' hc
                refine ⟨c, e, pre, old, post, hh, h2, by simpa using h3, by omega, fun w' hlat hw' => ?_⟩
                unfold ORep
                exact ⟨_, e, hw', .inl (by simpa using RC.later hlat _ _ h5)⟩
              · rename_i k xs i rr
                split at hq
                · rename_i z hz
                  obtain ⟨q', hq', rfl⟩ := Option.map_eq_some_iff.1 hq
                  unfold ORep at ho
                  obtain ⟨c, e, cs, rest, hh, hc, h0⟩ := ho
                  obtain ⟨pre, d, post, rfl, h2, h3, h4⟩ := RCk_set _ _ _ _ _ hc hz
                  obtain ⟨pre', old, post', rfl, h5, h6, h7⟩ := setAt_cells hcy _ _ _ _ _ _ hq' h3
                  refine ⟨c, e, pre ++ pre', old, post' ++ post ++ rest, hh, by rw [h0]; simp, ?_, by omega, fun w' hlat hw' => ?_⟩
                  · rw [List.length_append, h2]; exact h5
                  · have := h4 q'.2 (pre' ++ y.cells.toList ++ post') (by simp [h6]) h7
                    unfold ORep
                    exact ⟨_, e, pre ++ (pre' ++ y.cells.toList ++ post') ++ post, rest, hw', RCk.later hlat _ _ _ this, by simp⟩
                · cases hq
              · cases hq
            obtain ⟨c, e, pre, old, post, hh, h2, h3, h4, h5⟩ := key
            have hfit : pre.length + 0 + y.cells.toList.length ≤ c.size := by
              have := congrArg List.length h2
              simp at this
              omega
            have hst := run_storeCells_at P blk pre.length e y.cells.toList 0 c w hh hfit hone
            have hnew : (c.toList.take (pre.length + 0) ++ y.cells.toList ++ c.toList.drop (pre.length + 0 + y.cells.toList.length)) = pre ++ y.cells.toList ++ post := by
              rw [h2, hlen, ← h4]
              simp [List.append_assoc, List.drop_append]
            rw [hnew] at hst
            have hw := wrote_setRow (w := w) hh (toArray_size_mid (ds := y.cells.toList) h2 (by omega))
            have hnf := hi.own p g o blk hl hbk
            have hlat := hw.later (β := β) (F := F) hnf.1
            refine ⟨_, ?_, hlat, hw.chg ⟨p, g, o, hl, hbk⟩, hw.inv hi hl hbk (h5 _ hlat (setRow_heap w blk c _ e (0, 0) hh)), rfl, fun b hb => by
              obtain ⟨q', g', o', k1, k2⟩ := hb
              simp only [wrsO, wrO, lk_up] at k1
              split at k1
              · rename_i e1; cases k1; subst e1; exact ⟨_, _, _, hl, k2⟩
              · exact ⟨q', g', o', k1, k2⟩⟩
            have hsz' : y.cells.size = n := by simpa using hlen
            simp only [Instr.storeAt, Instr.sureAddr, storeVar, sizeOf, typeInfo, Sem.run_bind, Sem.run_pure, run_program, Result.andThen_ok, hinfo, hsz, hsz']
            simp only [ne_eq, not_true_eq_false, if_false, h3]
            simpa using hst
          · cases h
      · cases h
    · cases h
  · cases h
end
end Go.Fw
