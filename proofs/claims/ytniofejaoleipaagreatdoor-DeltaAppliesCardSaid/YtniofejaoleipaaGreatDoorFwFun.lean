import Derived.Test.YtniofejaoleipaaGreatDoorFwCode
import Derived.RangeFuncLeaves
/-
  Functions: what holds of the abstract ones holds of the program's.
-/
namespace Go.Fw
variable [YI]

def chkRs (P : Program) : List ResultVar → List RV → Bool
  | [], [] => true
  | .tmp t :: l, .tmp s :: l' => t == s && chkRs P l l'
  | .cell a ty :: l, .cell s n ag :: l' => a == s && tyOk P ty n ag && chkRs P l l'
  | _, _ => false

/-- An abstract function against the program's. -/
def chkFn (P : Program) (num : Nat → FuncId) (k : Nat) (fn : AFun) : Bool :=
  match P.funcs[num k]? with
  | some f => f.name != "runtime.NumGoroutine" && decide (fn.np ≤ f.ntmps) && chkRs P f.results.toList fn.rs && (match f.body with
    | some c => (match chkA P num f.ntmps fn.body (flatC c) with
      | some r => (dropE r).isEmpty
      | none => false)
    | none => false)
  | none => false

/-- A function's ranges over functions. -/
def colFn (P : Program) (num : Nat → FuncId) (k : Nat) (fn : AFun) : List (Nat × YInfo) :=
  match P.funcs[num k]? with
  | some f => match f.body with
    | some c => colA P num f.ntmps fn.body (flatC c)
    | none => []
  | none => []

def chkRV : List RV → Bool
  | [.tmp 0] => true
  | _ => false

/-- A round's abstract function against the program's. -/
def chkRnd (P : Program) (num : Nat → FuncId) (i : YInfo) (fn : AFun) : Bool :=
  match fn.body with
  | .rnd ss a c => ss == i.ps ++ i.slots && chkRV fn.rs && fn.np == ss.length && !hasRng a && !hasRng c && (match chkA P num i.n a (flatC i.assign) with
    | some r => (dropE r).isEmpty
    | none => false) && (match chkA P num i.n c (flatC i.body) with
    | some r => (dropE r).isEmpty
    | none => false)
  | _ => false

/-- The table against the program. -/
structure TabOk (P : Program) (num : Nat → FuncId) (T : Nat → Option ADef) : Prop where
  code : ∀ k fn, T k = some (.code fn) → k < 1000000 → chkFn P num k fn = true ∧ Cols (colFn P num k fn)
  ext : ∀ k e, T k = some (.ext e) → YI.yi k = none ∧ ∀ args ob tk R, e args ob tk R → CallOk P num k args ob tk R
  rnd : ∀ k i fn, T k = some (.code fn) → YI.yi k = some i → chkRnd P num i fn = true
  exts : ExtOk T

omit [YI] in
theorem col_none {P : Program} {num : Nat → FuncId} {N : Nat} : ∀ (a : ACode) (l : List CItem), hasRng a = false → colA P num N a l = []
  | .seq a b, l, h => by
    simp only [hasRng, Bool.or_eq_false_iff] at h
    simp only [colA, col_none a l h.1, List.nil_append]
    split
    · exact col_none b _ h.2
    · rfl
  | .sub c, l, h => by simp only [hasRng] at h; simp only [colA]; exact col_none c l h
  | .cond x a b, l, h => by
    simp only [hasRng, Bool.or_eq_false_iff] at h
    simp only [colA]
    split
    · rw [col_none a _ h.1, col_none b _ h.2]; rfl
    · rfl
  | .blk id c, l, h => by
    simp only [hasRng] at h
    simp only [colA]
    split
    · exact col_none c _ h
    · rfl
  | .loop c, l, h => by
    simp only [hasRng] at h
    simp only [colA]
    split
    · exact col_none c _ h
    · rfl
  | .rng .., l, h => by simp [hasRng] at h
  | .skip, _, _ | .keep .., _, _ | .frz .., _, _ | .stop, _, _ | .reg .., _, _ | .exit .., _, _ | .ret, _, _ | .rnd .., _, _ => by simp [colA]

section
variable {P : Program} {num : Nat → FuncId} {w : World} {F : Nat → Prop} {β : Beta}

/-- A result as it is read at the end. -/
def resV (tmps : Array Value) : ResultVar → Sem Value
  | .tmp t => Pure.pure (tmps.getD t undef)
  | .cell a t => do loadVar t (← asAddr (tmps.getD a undef))

omit [YI] in
theorem results_eq (f : Func) (tmps : Array Value) : results f tmps = (do
    let vs ← f.results.mapM (resV tmps)
    Pure.pure (if h : vs.size = 1 then vs[0] else .tuple vs)) := by
  unfold results
  congr 1

theorem rvAll_run {st : St} {tmps : Array Value} (he : ERep num w F β st.env tmps) (hi : Inv num w F β st.ob) : ∀ (rs : List ResultVar) (vs : List RV) (as : List AV), chkRs P rs vs = true → rvAll st vs = some as →
    ∃ us : List Value, (rs.mapM (resV tmps)).run P w = .ok us w ∧ RCv num w F β as us
  | [], [], as, _, h => by unfold rvAll at h; cases h; exact ⟨[], by simp, by unfold RCv; rfl⟩
  | .tmp t :: rs, .tmp s :: vs, as, hc, h => by
    simp only [chkRs, Bool.and_eq_true, beq_iff_eq] at hc
    unfold rvAll at h
    split at h
    · rename_i a as' ha hs
      cases h
      obtain ⟨us, h1, h2⟩ := rvAll_run he hi rs vs as' hc.2 hs
      obtain ⟨v, h3, h4⟩ := he s a ha
      refine ⟨v :: us, ?_, RCv_cons.2 ⟨v, us, rfl, h4, h2⟩⟩
      have hv : tmps.getD t undef = v := by rw [hc.1]; simp [h3]
      rw [List.mapM_cons]
      simp only [resV, hv, Sem.run_bind, Sem.run_pure, Result.andThen_ok, h1]
    · cases h
  | .cell x ty :: rs, .cell s n ag :: vs, as, hc, h => by
    simp only [chkRs, Bool.and_eq_true, beq_iff_eq] at hc
    unfold rvAll at h
    split at h
    · rename_i a as' ha hs
      cases h
      obtain ⟨us, h1, h2⟩ := rvAll_run he hi rs vs as' hc.2 hs
      simp only [RV.ev] at ha
      split at ha
      · rename_i b hb
        obtain ⟨v, h3, h4⟩ := he s b hb
        obtain ⟨u, h5, h6⟩ := loadV_run (P := P) hc.1.2 hi b a v h4 ha
        refine ⟨u :: us, ?_, RCv_cons.2 ⟨u, us, rfl, h6, h2⟩⟩
        have hv : tmps.getD x undef = v := by rw [hc.1.1]; simp [h3]
        have hp : ∃ ad, v = .pointer (some ad) := by
          unfold loadV at ha
          split at ha
          · exact h4.cptr_inv
          · exact h4.ptr_inv
          · cases ha
        obtain ⟨ad, rfl⟩ := hp
        have h7 : (loadVar ty ad).run P w = .ok u w := by simpa [Instr.loadAt, Instr.sureAddr] using h5
        rw [List.mapM_cons]
        simp only [resV, hv, asAddr, Sem.run_bind, Sem.run_pure, Result.andThen_ok, h7, h1]
      · cases ha
    · cases h
  | [], _ :: _, _, hc, _ => by simp [chkRs] at hc
  | _ :: _, [], _, hc, _ => by cases ‹ResultVar› <;> simp [chkRs] at hc
  | .tmp _ :: _, .cell .. :: _, _, hc, _ => by simp [chkRs] at hc
  | .cell .. :: _, .tmp _ :: _, _, hc, _ => by simp [chkRs] at hc

theorem result_run {f : Func} {fn : AFun} {st : St} {tmps : Array Value} (he : ERep num w F β st.env tmps) (hi : Inv num w F β st.ob) (hc : chkRs P f.results.toList fn.rs = true) {a : AV} (h : fn.result st = some a) :
    ∃ v, (results f tmps).run P w = .ok v w ∧ RX num w F β a v := by
  unfold AFun.result at h
  have key : ∃ as, rvAll st fn.rs = some as ∧ a = (match as with | [b] => b | as => .tup as) := by
    split at h
    · rename_i b hb; cases h; exact ⟨_, hb, rfl⟩
    · rename_i as hn hb
      cases h
      refine ⟨as, hb, ?_⟩
      split
      · rename_i b; exact (hn b rfl).elim
      · rfl
    · cases h
  obtain ⟨as, h1, rfl⟩ := key
  obtain ⟨us, h2, h3⟩ := rvAll_run (P := P) he hi f.results.toList fn.rs as hc h1
  have hm : (f.results.mapM (resV tmps)).run P w = .ok us.toArray w := by
    rw [Array.mapM_eq_mapM_toList]
    simp only [Sem.run_map, h2, Result.andThen_ok]
  refine ⟨if h : us.toArray.size = 1 then us.toArray[0] else .tuple us.toArray, ?_, ?_⟩
  · rw [results_eq]
    simp only [Sem.run_bind, hm, Result.andThen_ok]
    rfl
  · cases as with
    | nil =>
      unfold RCv at h3
      subst h3
      simp only [List.size_toArray, List.length_nil]
      exact ⟨#[], rfl, by unfold RCv; rfl⟩
    | cons b bs =>
      obtain ⟨v, r, rfl, h4, h5⟩ := RCv_cons.1 h3
      cases bs with
      | nil =>
        unfold RCv at h5
        subst h5
        simpa using h4
      | cons b2 bs =>
        obtain ⟨v2, r2, rfl, h6, h7⟩ := RCv_cons.1 h5
        have hne : ¬ ((v :: v2 :: r2).toArray.size = 1) := by simp
        rw [dif_neg hne]
        exact ⟨_, rfl, h3⟩

omit [YI] in
theorem lk_envOf : ∀ (args : List AV) (k n : Nat) (a : AV), lk (envOf k args) n = some a → k ≤ n ∧ args[n - k]? = some a
  | [], _, _, _, h => by unfold envOf lk at h; cases h
  | b :: args, k, n, a, h => by
    unfold envOf lk at h
    split at h
    · rename_i e; subst e; cases h; exact ⟨Nat.le_refl _, by simp⟩
    · obtain ⟨h1, h2⟩ := lk_envOf args (k + 1) n a h
      refine ⟨by omega, ?_⟩
      rw [show n - k = (n - (k + 1)) + 1 by omega]
      simpa using h2

omit [YI] in
theorem args_rep {args : List AV} {vs : List Value} (h : RCv num w F β args vs) (m : Nat) : ERep num w F β (envOf 0 args) (vs.toArray ++ Array.replicate m undef) := by
  intro n a hn
  obtain ⟨_, h2⟩ := lk_envOf args 0 n a hn
  obtain ⟨v, h3, h4⟩ := RCv_get args vs n a h (by simpa using h2)
  refine ⟨v, ?_, h4⟩
  have hlt : n < vs.length := (List.getElem?_eq_some_iff.1 h3).1
  rw [Array.getElem?_append_left (by simpa using hlt)]
  simpa using h3

omit [YI] in
theorem enters_of {k : Nat} {fn : AFun} (h : chkFn P num k fn = true) : Enters P (num k) := by
  unfold chkFn at h
  split at h
  · rename_i f hf
    simp only [Bool.and_eq_true, bne_iff_ne, ne_eq] at h
    obtain ⟨⟨⟨h1, _⟩, _⟩, h4⟩ := h
    intro args w
    have hb : ∃ c, f.body = some c := by
      split at h4
      · rename_i c hc; exact ⟨c, hc⟩
      · cases h4
    obtain ⟨c, hb⟩ := hb
    simp [callFunc, hf, h1, hb]
  · cases h

theorem Step.unmark {w0 : World} {F0 : Nat → Prop} {β0 : Beta} {ob0 ob : Ob} {n : Nat → Prop} {D : Nat} {o : Obj} (h : Step num w0 F0 β0 ob0 w F β ob n) (hD : w0.heap.size ≤ D) (hs : blkSize w D = none) (h1 : ¬ F D) (h2 : ¬ liveB β ob D) :
    Step num w0 F0 β0 ob0 (w.putObj D o) F β ob n ∧ Later w F β (w.putObj D o) F β := by
  have hne : ∀ b, b ≠ D → (w.putObj D o).heap[b]? = w.heap[b]? := fun b hb => World.putObj_heap_other hb
  have hl : Later w F β (w.putObj D o) F β := ⟨fun _ h => h, fun b hb => hne b fun e => h1 (e ▸ hb), fun b m hm => by
    by_cases e : b = D
    · subst e; rw [hs] at hm; cases hm
    · unfold blkSize; rw [hne b e]; exact hm, fun _ _ _ h => h⟩
  refine ⟨⟨h.later.trans hl, ⟨h.chg.os, h.chg.tape, h.chg.output, by simpa using h.chg.size, fun b hb hn => ?_, h.chg.made⟩, ?_, h.live, h.gen⟩, hl⟩
  · rw [hne b (by omega)]; exact h.chg.block b hb hn
  · refine h.inv.later hl (fun b hb => by simpa using h.inv.fin b hb) fun b hb => ?_
    obtain ⟨p, g, o', m1, m2⟩ := hb
    have := h.inv.own _ _ _ _ m1 m2
    exact ⟨hne b fun e => h2 (e ▸ ⟨p, g, o', m1, m2⟩), this.1, by simpa using this.2⟩

/-- The marks on the way out. -/
theorem leaves_marks {w0 : World} {F0 : Nat → Prop} {β0 : Beta} {ob0 ob : Ob} {n : Nat → Prop} {g : Func} {tmps : Array Value} {R : Ending → World → Prop}
    (hfin : ∀ w' : World, Step num w0 F0 β0 ob0 w' F β ob n → Later w F β w' F β → ∃ v, (results g tmps).run P w' = .ok v w' ∧ R (.returned v) w') :
    ∀ (Ds : List Nat) (w1 : World), Step num w0 F0 β0 ob0 w1 F β ob n → Later w F β w1 F β → Ds.Nodup → (∀ D ∈ Ds, w0.heap.size ≤ D ∧ w1.heap[D]? = some (.deferred (some [])) ∧ ¬ F D ∧ ¬ liveB β ob D) →
      LeavesInM (FF none) 0 P g tmps R (Ds.map fun D => ({ target := .collected D, args := #[] } : Deferred)) .returning w1
  | [], w1, hs, hl, _, _ => by
    simp only [List.map_nil, LeavesInM, LeavesIn]
    exact hfin w1 hs hl
  | D :: Ds, w1, hs, hl, hn, h => by
    obtain ⟨k1, k2, k3, k4⟩ := h D (List.mem_cons_self ..)
    obtain ⟨s1, l1⟩ := hs.unmark (o := .deferred none) k1 (by unfold blkSize; rw [k2]) k3 k4
    simp only [List.map_cons, LeavesInM]
    refine ⟨by simp, .inl ⟨D, _, rfl, run_takeDeferred k2, ?_⟩⟩
    refine leaves_marks hfin Ds _ s1 (hl.trans l1) (List.nodup_cons.1 hn).2 fun D' hD' => ?_
    obtain ⟨m1, m2, m3, m4⟩ := h D' (List.mem_cons_of_mem _ hD')
    have hne : D' ≠ D := fun e => (List.nodup_cons.1 hn).1 (e ▸ hD')
    exact ⟨m1, by rw [World.putObj_heap_other hne]; exact m2, m3, m4⟩

omit [YI] in
theorem lk_reEnv : ∀ (ss : List Nat) (env e : Env) (k : Nat), reEnv env ss k = some e → ∀ s a, lk e s = some a → ∃ j, ss[j]? = some s ∧ lk env (k + j) = some a
  | [], env, e, k, h, s, a, hs => by unfold reEnv at h; cases h; cases hs
  | x :: ss, env, e, k, h, s, a, hs => by
    unfold reEnv at h
    split at h
    · rename_i b e' hb he
      cases h
      unfold lk at hs
      split at hs
      · rename_i hx; subst hx; cases hs; exact ⟨0, rfl, hb⟩
      · obtain ⟨j, h1, h2⟩ := lk_reEnv ss env e' (k + 1) he s a hs
        exact ⟨j + 1, h1, by rw [show k + (j + 1) = k + 1 + j by omega]; exact h2⟩
    · cases h

theorem StepL.of {F2 : Nat → Prop} {β2 : Beta} {ob2 : Ob} {w1 w3 : World} {F3 : Nat → Prop} {β3 : Beta} {ob3 ob : Ob} {n : Nat → Prop} {l : Nat} {o1 o3 : Obj} {r : Loop}
    (hl : w.heap[l]? = some (.loop r)) (hF : ¬ F l) (hL : ¬ liveB β ob l) (s1 : Step num w F β ob w1 F2 β2 ob2 n) (s2 : Step num (w1.putObj l o1) F2 β2 ob2 w3 F3 β3 ob3 n) (hb : blkSize w3 l = none) (hne : ∀ m, blkSize (w1.putObj l o1) l ≠ some m) :
    StepL num l w F β ob (w3.putObj l o3) F3 β3 ob3 n := by
  have hlt : l < w.heap.size := (Array.getElem?_eq_some_iff.1 hl).1
  have hF2 : ¬ F2 l := fun h => by rcases s1.chg.made l h with h | h | h; exact hF h; exact hL h; omega
  have hL2 : ¬ liveB β2 ob2 l := fun h => by rcases s1.live l h with h | h; exact hL h; omega
  have hlt1 : l < (w1.putObj l o1).heap.size := by have := s1.chg.size; simp; omega
  have hF3 : ¬ F3 l := fun h => by rcases s2.chg.made l h with h | h | h; exact hF2 h; exact hL2 h; omega
  have hL3 : ¬ liveB β3 ob3 l := fun h => by rcases s2.live l h with h | h; exact hL2 h; omega
  have hlk1 : blkSize w1 l = none := by
    unfold blkSize; rw [s1.chg.block l hlt hL, hl]
  have hl1 : Later w1 F2 β2 (w1.putObj l o1) F2 β2 := ⟨fun _ h => h, fun b hb => World.putObj_heap_other fun e => hF2 (e ▸ hb), fun b m hm => by
    by_cases e : b = l
    · subst e; rw [hlk1] at hm; cases hm
    · unfold blkSize; rw [World.putObj_heap_other e]; exact hm, fun _ _ _ h => h⟩
  have hl3 : Later w3 F3 β3 (w3.putObj l o3) F3 β3 := ⟨fun _ h => h, fun b hb => World.putObj_heap_other fun e => hF3 (e ▸ hb), fun b m hm => by
    by_cases e : b = l
    · subst e; rw [hb] at hm; cases hm
    · unfold blkSize; rw [World.putObj_heap_other e]; exact hm, fun _ _ _ h => h⟩
  refine ⟨s1.later.trans (hl1.trans (s2.later.trans hl3)), ⟨?_, ?_, ?_, ?_, fun b hb' hn => ?_, fun b hb' => ?_⟩, ?_, fun b hb' => ?_, fun p g x hx => ?_, hF3, hL3⟩
  · exact (show (w3.putObj l o3).os = w3.os from rfl).trans (s2.chg.os.trans s1.chg.os)
  · exact (show (w3.putObj l o3).tape = w3.tape from rfl).trans (s2.chg.tape.trans s1.chg.tape)
  · exact (show (w3.putObj l o3).output = w3.output from rfl).trans (s2.chg.output.trans s1.chg.output)
  · have := s1.chg.size; have := s2.chg.size; simp at *; omega
  · have e : b ≠ l := fun e => hn (.inr e)
    have hb1 : b < (w1.putObj l o1).heap.size := by have := s1.chg.size; simp; omega
    rw [World.putObj_heap_other e, s2.chg.block b hb1 fun h => ?_, World.putObj_heap_other e]
    · exact s1.chg.block b hb' fun h => hn (.inl h)
    · rcases s1.live b h with h | h
      · exact hn (.inl h)
      · omega
  · rcases s2.chg.made b hb' with h | h | h
    · rcases s1.chg.made b h with h | h | h
      · exact .inl h
      · exact .inr (.inl (.inl h))
      · exact .inr (.inr h)
    · rcases s1.live b h with h | h
      · exact .inr (.inl (.inl h))
      · exact .inr (.inr h)
    · refine .inr (.inr ?_); have := s1.chg.size; simp at h; omega
  · refine s2.inv.later hl3 (fun b hb' => by simpa using s2.inv.fin b hb') fun b hb' => ?_
    obtain ⟨p, g, o', m1, m2⟩ := hb'
    have := s2.inv.own _ _ _ _ m1 m2
    exact ⟨World.putObj_heap_other fun e => hL3 (e ▸ ⟨p, g, o', m1, m2⟩), this.1, by simpa using this.2⟩
  · rcases s2.live b hb' with h | h
    · rcases s1.live b h with h | h
      · exact .inl h
      · exact .inr h
    · refine .inr ?_; have := s1.chg.size; simp at h; omega
  · rcases s2.gen p g x hx with h | h
    · exact s1.gen p g x h
    · exact .inr h

/-- A round. -/
theorem rnd_sound {S : Job → Prop} (hS : ∀ J, S J → JobOk P num J) (hup : ∀ f args ob tk R, S (.call f args ob tk R) → ∃ a o t, R a o t ∧ tk ≤ t) {i : YInfo} {fn : AFun} (hc : chkRnd P num i fn = true) {args : List AV} {ob : Ob} {tk : Nat} {R : AV → Ob → Nat → Prop}
    (hlen : args.length = fn.np) (hw : wpS S fn.body ⟨envOf 0 args, ob, tk⟩ fun e st => (match e with | .exit _ => False | _ => True) ∧ ∃ a, fn.result st = some a ∧ R a st.ob st.tk) : RoundOk P num i args ob tk R := by
  unfold chkRnd at hc
  split at hc
  case h_2 => cases hc
  rename_i ss ac c hbody
  simp only [Bool.and_eq_true, beq_iff_eq, Bool.not_eq_true'] at hc
  obtain ⟨⟨⟨⟨⟨⟨hss, hrs⟩, hnp⟩, hra⟩, hrc⟩, hca⟩, hcc⟩ := hc
  refine ⟨by rw [hlen, hnp, hss]; simp, fun w F β vs l r tmps h1 hi hg hv hl hready hpend hF hL hsize hvals => ?_⟩
  rw [hbody] at hw
  unfold wpS at hw
  split at hw
  case h_2 => exact hw.elim
  rename_i env henv
  split at hca
  case h_2 => cases hca
  rename_i rest1 hA
  split at hcc
  case h_2 => cases hcc
  rename_i rest2 hC
  have hcol : ∀ (a : ACode) (l : List CItem), hasRng a = false → Cols (colA P num i.n a l) := fun a l h p hp => by rw [col_none a l h] at hp; cases hp
  have hlt : l < w.heap.size := (Array.getElem?_eq_some_iff.1 hl).1
  have hcr : CRep num i.n ⟨env, ob, tk⟩ { tmps := tmps, defers := [] } w F β := by
    refine ⟨fun s a hs => ?_, hi, hg, h1, hsize⟩
    obtain ⟨j, k1, k2⟩ := lk_reEnv _ _ _ _ henv s a hs
    rw [Nat.zero_add] at k2
    obtain ⟨_, k3⟩ := lk_envOf args 0 j a k2
    obtain ⟨v, k4, k5⟩ := RCv_get args vs j a hv (by simpa using k3)
    exact ⟨v, by rw [← k4]; exact hvals j s (hss ▸ k1), k5⟩
  refine roundIn_of_wpIn trivial ?_
  have run1 := code_run (r := some l) hS hup (Nat.le_refl w.heap.size) ac (flatC i.assign) rest1 hA (hcol _ _ hra) (fun h => by rw [hra] at h; cases h) ⟨env, ob, tk⟩ _ hw { tmps := tmps, defers := [] } w (RanC.refl hcr (Marks.nil ..))
    (Exit.then (fun a₁ w₁ => ∃ w₂, (Instr.beginRound l).run P w₁ = .ok () w₂ ∧ i.body.wpIn ((FF none).inRound l) 0 P (roundPost P l (RoundPost num w F β ob tk l r R)) a₁ w₂) (fun _ _ _ => False)) ?_
  · refine wpIn_mono (wpL_flat i.assign [] _ _ w (by simpa using run1)) fun e a1 w1 h1 => ?_
    cases e <;> exact h1
  · intro e st1 a1 w1 he hr1
    cases e with
    | ret => exact he.elim
    | exit id => exact he.elim
    | nrm =>
      refine dropE_run rest1 _ a1 w1 fun w1' hlike => ?_
      rw [isEmpty_nil hca]
      obtain ⟨F1, β1, k1, k2, k3, k4⟩ := hr1.like hlike
      have hl1 : w1'.heap[l]? = some (.loop r) := by rw [k2.chg.block l hlt hL]; exact hl
      refine ⟨_, run_beginRound hl1 hready, ?_⟩
      have hF1 : ¬ F1 l := fun h => by rcases k2.chg.made l h with h | h | h; exact hF h; exact hL h; omega
      have hL1 : ¬ liveB β1 st1.ob l := fun h => by rcases k2.live l h with h | h; exact hL h; omega
      have hb1 : blkSize w1' l = none := by unfold blkSize; rw [hl1]
      let rb : Loop := { r with state := .busy }
      let w2 := w1'.putObj l (.loop rb)
      have hlt1 : l < w1'.heap.size := (Array.getElem?_eq_some_iff.1 hl1).1
      have hl2 : w2.heap[l]? = some (.loop rb) := World.putObj_heap_same hlt1
      have hlat : Later w1' F1 β1 w2 F1 β1 := ⟨fun _ h => h, fun b hb => World.putObj_heap_other fun e => hF1 (e ▸ hb), fun b m hm => by
        by_cases e : b = l
        · subst e; rw [hb1] at hm; cases hm
        · unfold blkSize; rw [World.putObj_heap_other e]; exact hm, fun _ _ _ h => h⟩
      have hinv2 : Inv num w2 F1 β1 st1.ob := by
        refine k2.inv.later hlat (fun b hb' => by simpa [w2] using k2.inv.fin b hb') fun b hb' => ?_
        obtain ⟨p, g, o', m1, m2⟩ := hb'
        have := k2.inv.own _ _ _ _ m1 m2
        exact ⟨World.putObj_heap_other fun e => hL1 (e ▸ ⟨p, g, o', m1, m2⟩), this.1, by simpa [w2] using this.2⟩
      have hcr2 : CRep num i.n st1 a1 w2 F1 β1 := ⟨k1.env.later hlat, hinv2, k1.gen, k1.pos, k1.size⟩
      have hm2 : Marks w.heap.size w2 F1 β1 st1.ob a1.defers := by
        obtain ⟨Ds, m1, m2, m3⟩ := k4
        refine ⟨Ds, m1, m2, fun D hD => ?_⟩
        obtain ⟨n1, n2, n3, n4⟩ := m3 D hD
        exact ⟨n1, by rw [World.putObj_heap_other (by omega)]; exact n2, n3, n4⟩
      have hn2 : w.heap.size ≤ w2.heap.size := by have := k2.chg.size; simp [w2]; omega
      have run2 := code_run (r := some l) hS hup hn2 c (flatC i.body) rest2 hC (hcol _ _ hrc) (fun h => by rw [hrc] at h; cases h) st1 _ he a1 w2 (RanC.refl hcr2 hm2)
        (roundPost P l (RoundPost num w F β ob tk l r R)) ?_
      · refine wpIn_mono (wpL_flat i.body [] _ _ w2 (by simpa using run2)) fun e a1 w1 h1 => ?_
        cases e <;> exact h1
      · -- the end
        have fin : ∀ (e : Ex) st' a' w', (∃ a, fn.result ⟨[(0, .v (.int .i64 (codeEx e)))], st'.ob, st'.tk⟩ = some a ∧ R a st'.ob st'.tk) → RanC num i.n w.heap.size w2 F1 β1 st1.ob st1.tk st' a' w' → ∀ jump : Option Code, jump = (sOf (codeEx e)).map jumpOf →
            ∃ v w'', (Instr.endRound l jump).run P w' = .ok v w'' ∧ RoundPost num w F β ob tk l r R (.returned v) w'' := by
          rintro e st' a' w' ⟨a, hres, hR⟩ ⟨F3, β3, q1, q2, q3, q4⟩ jump hj
          have hl3 : w'.heap[l]? = some (.loop rb) := by rw [q2.chg.block l (by simpa [w2] using hlt1) hL1]; exact hl2
          have ha : a = .v (.int .i64 (codeEx e)) := by
            unfold chkRV at hrs
            split at hrs
            · rename_i hrs'
              unfold AFun.result at hres
              rw [hrs'] at hres
              simpa [rvAll, RV.ev, lk] using hres.symm
            · cases hrs
          refine ⟨_, _, run_endRound jump hl3, codeEx e, st'.ob, st'.tk, F3, β3, ha ▸ hR, ?_, ?_, by have : tk ≤ st1.tk := k3; omega, ?_, ?_⟩
          · cases e <;> simp only [codeEx] <;> omega
          · rw [hj]
            cases e with
            | nrm => rfl
            | ret => rfl
            | exit n =>
              have : ¬ ((n : Int) + 2 = 0) := by omega
              simp [codeEx, sOf, this]
          · refine StepL.of (n := fun g => g = 0 ∨ (tk ≤ g ∧ g < st'.tk)) hl hF hL ⟨k2.later, k2.chg, k2.inv, k2.live, fun p g x hx => ?_⟩ ⟨q2.later, q2.chg, q2.inv, q2.live, fun p g x hx => ?_⟩ (by unfold blkSize; rw [hl3]) fun m hm => by unfold blkSize at hm; rw [show (w1'.putObj l (.loop rb)).heap[l]? = _ from hl2] at hm; cases hm
            · rcases k2.gen p g x hx with h | h | h
              · exact .inl h
              · exact .inr (.inl h)
              · exact .inr (.inr ⟨h, by have := k1.gen p g x hx; omega⟩)
            · rcases q2.gen p g x hx with h | h | h
              · exact .inl h
              · exact .inr (.inl h)
              · exact .inr (.inr ⟨Nat.le_trans k3 h, q1.gen p g x hx⟩)
          · rw [World.putObj_heap_same (Array.getElem?_eq_some_iff.1 hl3).1, hj]
            congr 2
            cases e with
            | nrm => rfl
            | ret => rfl
            | exit n =>
              have : ¬ ((n : Int) + 2 = 0) := by omega
              simp [recOf, rb, codeEx, sOf, this]
        intro e st' a' w' he' hr'
        cases e with
        | nrm =>
          refine dropE_run rest2 _ a' w' fun w3 hl => ?_
          rw [isEmpty_nil hcc]
          exact fin .nrm st' a' w3 he'.2 (hr'.like hl) none rfl
        | ret => exact fin .ret st' a' w' he'.2 hr' _ rfl
        | exit id =>
          refine fin (.exit id) st' a' w' he'.2 hr' _ ?_
          have h1 : ¬ ((id : Int) + 2 = 0) := by omega
          have h2 : ((id : Int) + 2).toNat - 1 = id + 1 := by omega
          simp [codeEx, sOf, h1, h2, jumpOf]

/-- What holds of the abstract functions holds of the program's. -/
theorem job_sound {T : Nat → Option ADef} (hT : TabOk P num T) {J : Job} (h : Holds T J) : JobOk P num J := by
  refine Holds.ind (S := JobOk P num) ?_ h
  intro J hJ
  have hup : ∀ f args ob tk R, (Holds T (.call f args ob tk R) ∧ JobOk P num (.call f args ob tk R)) → ∃ a o t, R a o t ∧ tk ≤ t := fun f args ob tk R h => Holds.tkOk hT.exts h.1
  cases J with
  | loop c st Q =>
    intro N n0 r body rest hc hrest hcol hrng w F β a hr hm hn0 QQ hQ
    refine LoopAt.round ?_
    have := code_run (r := r) (S := fun J => Holds T J ∧ JobOk P num J) (fun J h => h.2) hup hn0 c (flatC body) rest hc hcol hrng st _ hJ a w (RanC.refl hr hm) (Exit.then (LoopAt r P body QQ) QQ) fun e st' a' w' he hr' => ?_
    · refine wpIn_mono (wpL_flat body [] _ a w (by simpa using this)) fun e a1 w1 h1 => ?_
      cases e <;> exact h1
    · cases e with
      | nrm =>
        refine dropE_run rest _ a' w' fun w2 hl => ?_
        rw [isEmpty_nil hrest]
        obtain ⟨F', β', k1, k2, k3, k4⟩ := hr'.like hl
        exact he.2 N n0 r body rest hc hrest hcol hrng w2 F' β' a' k1 k4 (Nat.le_trans hn0 k2.chg.size) QQ fun e st'' a'' w'' hq hr'' => hQ e st'' a'' w'' hq (RanC.afterC k2 k3 hr'')
      | ret => exact hQ .ret st' a' w' he hr'
      | exit id => exact hQ (.exit id) st' a' w' he hr'
  | call f args ob tk R =>
    simp only [stepJ] at hJ
    cases hf : T f with
    | none => rw [hf] at hJ; exact hJ.elim
    | some d =>
      rw [hf] at hJ
      cases d with
      | ext e => exact ⟨fun _ => (hT.ext f e hf).2 args ob tk R hJ, fun i hi => by rw [(hT.ext f e hf).1] at hi; cases hi⟩
      | code fn =>
        obtain ⟨hlen, hw⟩ := hJ
        refine ⟨fun hlt => ?_, fun i hi => rnd_sound (S := fun J => Holds T J ∧ JobOk P num J) (fun J h => h.2) hup (hT.rnd f i fn hf hi) hlen hw⟩
        obtain ⟨hchk, hcol⟩ := hT.code f fn hf hlt
        refine ⟨enters_of hchk, fun w F β vs h1 hi hg hv => ?_⟩
        unfold chkFn at hchk
        unfold colFn at hcol
        split at hchk
        · rename_i g hpf
          simp only [hpf] at hcol
          simp only [Bool.and_eq_true, decide_eq_true_eq] at hchk
          obtain ⟨⟨⟨_, hnp⟩, hrs⟩, hbody⟩ := hchk
          split at hbody
          · rename_i c hb
            simp only [hb] at hcol
            split at hbody
            · rename_i rest hcA
              refine callsIn_of_wp_marks hpf hb trivial ?_ rfl
              have hvl := RCv_len _ _ hv
              have hcr : CRep num g.ntmps ⟨envOf 0 args, ob, tk⟩ { tmps := vs.toArray ++ Array.replicate (g.ntmps - vs.toArray.size) undef, defers := [] } w F β :=
                ⟨args_rep hv _, hi, hg, h1, by simp; omega⟩
              have fin : ∀ (e : Ex) st' a' w', ((match e with | .exit _ => False | _ => True) ∧ ∃ a, fn.result st' = some a ∧ R a st'.ob st'.tk) → RanC num g.ntmps w.heap.size w F β ob tk st' a' w' →
                  LeavesInM (FF none) 0 P g a'.tmps (CallPost num w F β ob tk R) a'.defers .returning w' := by
                rintro e st' a' w' ⟨_, a, hres, hR⟩ ⟨F', β', k1, k2, k3, k4⟩
                obtain ⟨Ds, m1, m2, m3⟩ := k4
                rw [m1]
                refine leaves_marks (w := w') (fun w'' s l => ?_) Ds w' k2 (Later.refl _ _ _) m2 m3
                obtain ⟨v, hv1, hv2⟩ := result_run (P := P) (k1.env.later l) s.inv hrs hres
                refine ⟨v, hv1, a, st'.ob, st'.tk, F', β', hR, k3, hv2, ⟨s.later, s.chg, s.inv, s.live, fun p g' x hx => ?_⟩⟩
                rcases s.gen p g' x hx with h | h | h
                · exact .inl h
                · exact .inr (.inl h)
                · exact .inr (.inr ⟨h, k1.gen p g' x hx⟩)
              have := code_run (r := none) (S := fun J => Holds T J ∧ JobOk P num J) (fun J h => h.2) hup (Nat.le_refl w.heap.size) fn.body (flatC c) rest hcA hcol (fun _ => rfl) ⟨envOf 0 args, ob, tk⟩ _ hw _ w (RanC.refl hcr (Marks.nil ..)) (bodyPostM (FF none) 0 P g (CallPost num w F β ob tk R)) fun e st' a' w' he hr' => ?_
              · refine wpIn_mono (wpL_flat c [] _ _ w (by simpa using this)) fun e a1 w1 h1 => ?_
                cases e <;> exact h1
              · cases e with
                | nrm =>
                  refine dropE_run rest _ a' w' fun w2 hl => ?_
                  rw [isEmpty_nil hbody]
                  exact fin .nrm st' a' w2 he (hr'.like hl)
                | ret => exact fin .ret st' a' w' he hr'
                | exit id => exact he.1.elim
            · cases hbody
          · cases hbody
        · cases hchk
end
end Go.Fw
