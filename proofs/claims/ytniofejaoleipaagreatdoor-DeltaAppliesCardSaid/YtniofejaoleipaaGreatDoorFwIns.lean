import Derived.Test.YtniofejaoleipaaGreatDoorFwCall
/-
  One instruction.
-/
namespace Go.Fw
variable [YI]

def chkF (num : Nat → FuncId) (x : Operand) (f : ACall) : Bool :=
  match f with
  | .fn k => match x with
    | .func g => num k == g && decide (k < 1000000)
    | _ => false
  | .val y => chkX num x y

def chkCall (num : Nat → FuncId) (o : Op) (f : ACall) (args : List X) : Bool :=
  match o with
  | .call c => match c.callee with
    | .value x => chkF num x f && chkXs num c.args.toList args
    | _ => false
  | _ => false

def chkGd (ops : Array Oper) (g : Option (Nat × Bool)) (g' : Option (Nat × Bool)) : Bool :=
  match g, g' with
  | none, none => true
  | some (j, b), some (s, b') => decide ((ops[j]?).bind (·.dst) = some s) && b == b'
  | _, _ => false

/-- An instruction against an operation of a region. -/
def chkI (P : Program) (num : Nat → FuncId) (N : Nat) (ops : Array Oper) (o : Oper) (i : Ins) : Bool :=
  chkGd ops o.guard i.gd && decide (o.dst = i.dst) && (match i.dst with | some d => decide (d < N) | none => true) &&
  (match i with
  | .m _ _ x => chkMV P num o.op x
  | .p _ _ x => chkPO P num o.op x
  | .r _ _ x => chkRO P num o.op x
  | .w _ _ x => chkWO P num o.op x
  | .fin _ n s y => match o.op with
    | .store t (.tmp s') y' => s' == s && decide ((P.info? t).map (·.size) = some n) && decide (0 < n) && chkX num y' y
    | _ => false
  | .call _ _ f args _ => chkCall num o.op f (args.map (·.1))
  | .calli _ _ f args => chkCall num o.op f args
  | .cally _ _ x args => chkCall num o.op (.val x) args)

section
variable {P : Program} {num : Nat → FuncId} {w : World} {F : Nat → Prop} {β : Beta} {env : Env} {act : Act} {N : Nat} {ops : Array Oper} {o : Oper} {i : Ins}

omit [YI] in
theorem ERep_put {tmps : Array Value} {d : Nat} {a : AV} {v : Value} (h : ERep num w F β env tmps) (hx : RX num w F β a v) (hd : d < tmps.size) : ERep num w F β (up env d a) (tmps.setIfInBounds d v) := by
  intro n b hn
  rw [lk_up] at hn
  split at hn
  · rename_i e
    cases hn
    subst e
    exact ⟨v, by simp [hd], hx⟩
  · rename_i e
    obtain ⟨u, h1, h2⟩ := h n b hn
    exact ⟨u, by rw [Array.getElem?_setIfInBounds_ne (fun h => e h.symm)]; exact h1, h2⟩

omit [YI] in
theorem ERep_putE {d : Option Nat} {a : AV} {v : Value} (h : ERep num w F β env act.tmps) (hx : RX num w F β a v) (hd : ∀ n, d = some n → n < act.tmps.size) : ERep num w F β (putE env d a) (act.put d v).tmps := by
  cases d with
  | none => exact h
  | some d => exact ERep_put h hx (hd d rfl)

omit [YI] in
theorem put_size (d : Option Nat) (v : Value) : (act.put d v).tmps.size = act.tmps.size := by
  cases d <;> simp [Act.put]
omit [YI] in
theorem put_defers (d : Option Nat) (v : Value) : (act.put d v).defers = act.defers := by
  cases d <;> rfl

omit [YI] in
theorem ERep_up {tmps : Array Value} {d : Nat} {a : AV} {v : Value} (h : ERep num w F β env tmps) (hv : tmps[d]? = some v) (hx : RX num w F β a v) : ERep num w F β (up env d a) tmps := by
  intro n b hn
  rw [lk_up] at hn
  split at hn
  · rename_i e
    cases hn
    subst e
    exact ⟨v, hv, hx⟩
  · exact h n b hn

omit [YI] in
/-- Is it carried out? -/
theorem wanted_run (he : ERep num w F β env act.tmps) (hc : chkGd ops o.guard i.gd = true) {b : Bool} (h : i.guardOk env = some b) : Region.wanted o (yielded ops act.tmps) = b := by
  unfold chkGd at hc
  unfold Ins.guardOk at h
  unfold Region.wanted
  split at hc
  · rename_i h1 h2
    rw [h2] at h
    rw [h1]
    cases h
    rfl
  · rename_i j want s want' h1 h2
    simp only [Bool.and_eq_true, decide_eq_true_eq, beq_iff_eq] at hc
    obtain ⟨hd, rfl⟩ := hc
    rw [h2] at h
    rw [h1]
    dsimp only at h ⊢
    unfold yielded
    rw [hd]
    split at h
    · rename_i t hl
      cases h
      obtain ⟨v, k1, k2⟩ := he s _ hl
      have := k2.atom_inv
      subst this
      simp [k1]
    · rename_i hl
      cases h
      obtain ⟨v, k1, k2⟩ := he s _ hl
      have : v = undef := k2
      subst this
      simp [k1, undef]
    · cases h
  · cases hc

omit [YI] in
theorem FF_round (r : Option Nat) {f : FuncId} {args : Array Value} {w : World} {R : Ending → World → Prop} (h : CallsIn (FF none) 0 P f args w R) : CallsIn (FF r) 0 P f args w R := by
  cases r with
  | none => exact h
  | some l => exact h

/-- An operation that hands a value on. -/
theorem wpIn_of_opOk {r : Option Nat} {j : Nat} (ho : ops[j]? = some o) (hd : ∀ c, o.op ≠ .defer c) (hw : Region.wanted o (yielded ops act.tmps) = true) {Q : Exit → Act → World → Prop} {K : Act → World → Prop} {ob ob' : Ob} {tg : Nat} {a : AV}
    (h : OpOk P num o act w F β ob ob' tg a) (hK : ∀ v w' F' β', RX num w' F' β' a v → Step num w F β ob w' F' β' ob' (fun g => g = tg) → K (act.put o.dst v) w') : wpOpIn (FF r) 0 P ops Q j K act w := by
  unfold wpOpIn
  rw [ho]
  dsimp only
  rw [if_pos hw]
  refine ⟨fun _ _ => trivial, ?_⟩
  rw [Oper.semAt_eq _ _ _ hd]
  obtain ⟨v, w', F', β', h1, h2, h3, h4, h5, h6⟩ := h
  have hs : Step num w F β ob w' F' β' ob' (fun g => g = tg) := ⟨h2, h3, h4, h6.live, h6.gen⟩
  rcases h1 with h1 | ⟨h1, rfl⟩
  · rw [h1]; exact hK v w' F' β' h5 hs
  · rw [h1]; exact hK undef w' F' β' h5 hs

omit [YI] in
theorem chkArgs (he : ERep num w F β env act.tmps) : ∀ {xs : List Operand} {args : List (X × AMode)} {as : List (AV × AMode)}, chkXs num xs (args.map (·.1)) = true → evArgs env args = some as → RCv num w F β (as.map (·.1)) (xs.map act.eval)
  | [], [], as, _, h => by unfold evArgs at h; cases h; simp; unfold RCv; rfl
  | x :: xs, (y, m) :: ys, as, hc, h => by
    simp only [List.map_cons, chkXs, Bool.and_eq_true] at hc
    unfold evArgs at h
    split at h
    · rename_i a as' ha hs
      cases h
      exact RCv_cons.2 ⟨_, _, rfl, chkX_spec he hc.1 ha, chkArgs he hc.2 hs⟩
    · cases h
  | [], _ :: _, _, hc, _ => by simp [chkXs] at hc
  | _ :: _, [], _, hc, _ => by simp [chkXs] at hc

omit [YI] in
/-- A call: what is entered. -/
theorem call_run {c : Call} {x : Operand} {f : ACall} {fc : Nat × List AV} (hop : o.op = .call c) (hcal : c.callee = .value x) (he : ERep num w F β env act.tmps) (hc : chkF num x f = true) (hf : f.ev env = some fc) (hen : fc.1 < 1000000 → Enters P (num fc.1)) :
    ∃ us, fc.1 < 1000000 ∧ RCv num w F β fc.2 us ∧ (execOp act.eval o).run P w = .ok (.enter (num fc.1) (c.args.toList.map act.eval ++ us).toArray) w := by
  have key : ∃ us : List Value, fc.1 < 1000000 ∧ RCv num w F β fc.2 us ∧ act.eval x = .func (.func (num fc.1)) #[] us.toArray := by
    cases f with
    | fn k =>
      cases hf
      simp only [chkF] at hc
      split at hc
      · rename_i g
        simp only [Bool.and_eq_true, beq_iff_eq, decide_eq_true_eq] at hc
        obtain ⟨rfl, h0⟩ := hc
        exact ⟨[], h0, by unfold RCv; rfl, rfl⟩
      · cases hc
    | val y =>
      simp only [chkF] at hc
      simp only [ACall.ev] at hf
      split at hf
      · rename_i a ha
        unfold fnV at hf
        split at hf
        · cases hf
          obtain ⟨us, h1, h2, h3⟩ := (chkX_spec he hc ha).fn_inv
          exact ⟨us, h3, h2, h1⟩
        · cases hf
      · cases hf
  obtain ⟨us, h0, h1, h2⟩ := key
  refine ⟨us, h0, h1, ?_⟩
  have h3 := hen h0 ((c.args.map act.eval) ++ us.toArray) w
  have e : (c.args.toList.map act.eval ++ us).toArray = c.args.map act.eval ++ us.toArray := by
    apply Array.ext'
    simp
  rw [e]
  simp [execOp, hop, resolve, hcal, Deferred.ofValue, h2, invoke, h3]

omit [YI] in
theorem no_defer_MV {x : MV} (h : chkMV P num o.op x = true) : ∀ c, o.op ≠ .defer c := by
  intro c hc
  rw [hc] at h
  cases x <;> simp [chkMV] at h
omit [YI] in
theorem no_defer_PO {x : PO} (h : chkPO P num o.op x = true) : ∀ c, o.op ≠ .defer c := by
  intro c hc
  rw [hc] at h
  cases x <;> simp [chkPO] at h
omit [YI] in
theorem no_defer_RO {x : RO} (h : chkRO P num o.op x = true) : ∀ c, o.op ≠ .defer c := by
  intro c hc
  rw [hc] at h
  cases x <;> simp [chkRO, chkApp] at h
omit [YI] in
theorem no_defer_WO {x : WO} (h : chkWO P num o.op x = true) : ∀ c, o.op ≠ .defer c := by
  intro c hc
  rw [hc] at h
  cases x <;> simp [chkWO, chkApp] at h

omit [YI] in
theorem chkCall_spec {f : ACall} {args : List X} (h : chkCall num o.op f args = true) : ∃ c x, o.op = .call c ∧ c.callee = .value x ∧ chkF num x f = true ∧ chkXs num c.args.toList args = true := by
  unfold chkCall at h
  split at h
  · rename_i c hop
    split at h
    · rename_i x hx
      simp only [Bool.and_eq_true] at h
      exact ⟨c, x, hop, hx, h.1, h.2⟩
    · cases h
  · cases h

omit [YI] in
theorem wpIn_of_call {r : Option Nat} {j : Nat} (ho : ops[j]? = some o) {c : Call} (hop : o.op = .call c) (hw : Region.wanted o (yielded ops act.tmps) = true) {Q : Exit → Act → World → Prop} {K : Act → World → Prop} {g : FuncId} {args : Array Value}
    (hr : (execOp act.eval o).run P w = .ok (.enter g args) w) {R : Ending → World → Prop} (hc : CallsIn (FF none) 0 P g args w R) (hR : ∀ e w', R e w' → match e with | .returned v => K (act.put o.dst v) w' | _ => False) :
    wpOpIn (FF r) 0 P ops Q j K act w := by
  unfold wpOpIn
  rw [ho]
  dsimp only
  rw [if_pos hw]
  refine ⟨fun _ _ => trivial, ?_⟩
  rw [Oper.semAt_eq _ _ _ (by simp [hop]), hr]
  refine ⟨fun h => by simp [FF, Fence.wide] at h, ?_⟩
  refine CallsIn.mono (FF_round r hc) fun e w' he => ?_
  have := hR e w' he
  cases e with
  | returned v => exact this
  | panicked ch => exact this.elim
  | outgrown => exact this.elim

omit [YI] in
theorem wpIn_of_round {r : Option Nat} {j : Nat} (ho : ops[j]? = some o) {c : Call} (hop : o.op = .call c) (hw : Region.wanted o (yielded ops act.tmps) = true) {Q : Exit → Act → World → Prop} {K : Act → World → Prop} {l : Nat} {f : FuncId} {tmps : Array Value} {assign body : Code}
    (hr : (execOp act.eval o).run P w = .ok (.round l f tmps assign body) w) {R : Ending → World → Prop} (hc : RoundIn (FF none) 0 P l f tmps assign body w R) (hR : ∀ e w', R e w' → match e with | .returned v => K (act.put o.dst v) w' | _ => False) :
    wpOpIn (FF r) 0 P ops Q j K act w := by
  unfold wpOpIn
  rw [ho]
  dsimp only
  rw [if_pos hw]
  refine ⟨fun _ _ => trivial, ?_⟩
  rw [Oper.semAt_eq _ _ _ (by simp [hop]), hr]
  refine ⟨fun h => by simp [FF, Fence.wide] at h, ?_⟩
  have hc' : RoundIn (FF r) 0 P l f tmps assign body w R := hc
  refine RoundIn.mono hc' fun e w' he => ?_
  have := hR e w' he
  cases e with
  | returned v => exact this
  | panicked ch => exact this.elim
  | outgrown => exact this.elim

omit [YI] in
theorem set_all : ∀ (ps : List Nat) (vs : List Value) (t : Array Value), ps.Nodup → ps.length = vs.length → (∀ s ∈ ps, s < t.size) →
    (((ps.zip vs).foldl (fun t (p, v) => t.setIfInBounds p v) t).size = t.size) ∧ (∀ (k s : Nat), ps[k]? = some s → ((ps.zip vs).foldl (fun t (p, v) => t.setIfInBounds p v) t)[s]? = vs[k]?) ∧
      ∀ s, s ∉ ps → ((ps.zip vs).foldl (fun t (p, v) => t.setIfInBounds p v) t)[s]? = t[s]?
  | [], vs, t, _, _, _ => ⟨rfl, by simp, fun _ _ => rfl⟩
  | p :: ps, [], t, _, hl, _ => by simp at hl
  | p :: ps, v :: vs, t, hn, hl, hs => by
    rw [List.nodup_cons] at hn
    obtain ⟨h1, h2, h3⟩ := set_all ps vs (t.setIfInBounds p v) hn.2 (by simpa using hl) (fun s h => by simp; exact hs s (List.mem_cons_of_mem _ h))
    simp only [List.zip_cons_cons, List.foldl_cons]
    refine ⟨by rw [h1]; simp, fun k s hk => ?_, fun s hs' => ?_⟩
    · cases k with
      | zero =>
        simp at hk
        subst hk
        rw [h3 p hn.1]
        simp [hs p (List.mem_cons_self ..)]
      | succ k => simpa using h2 k s (by simpa using hk)
    · simp only [List.mem_cons, not_or] at hs'
      rw [h3 s hs'.2, Array.getElem?_setIfInBounds_ne (fun e => hs'.1 e.symm)]

/-- One instruction of a region. -/
theorem ins_step {S : Job → Prop} (hS : ∀ f args ob tk R, S (.call f args ob tk R) → CallJob P num f args ob tk R) {r : Option Nat} {t0 j J : Nat} {st : St} {e : Eff} (hc : chkI P num N ops o i = true) (ho : ops[J]? = some o)
    (hf : InsFact S t0 j i st e) (he : ERep num w F β st.env act.tmps) (hi : Inv num w F β st.ob) (hN : N ≤ act.tmps.size) (hg : i.gen = true → ∀ p, β p (t0 + j) = none) (htk : ∀ p g x, β p g = some x → g < st.tk) (h1 : 1 ≤ st.tk)
    {Q : Exit → Act → World → Prop} {K : Act → World → Prop}
    (hK : ∀ act' w' F' β', ERep num w' F' β' (e.app st).env act'.tmps → Step num w F β st.ob w' F' β' (e.app st).ob (fun g => g = 0 ∨ (i.gen = true ∧ g = t0 + j) ∨ (st.tk ≤ g ∧ g < (e.app st).tk)) →
      act'.tmps.size = act.tmps.size → act'.defers = act.defers → st.tk ≤ (e.app st).tk → K act' w') : wpOpIn (FF r) 0 P ops Q J K act w := by
  unfold chkI at hc
  simp only [Bool.and_eq_true, decide_eq_true_eq] at hc
  obtain ⟨⟨⟨hgd, hdst⟩, hdN⟩, hc⟩ := hc
  have hd : ∀ n, i.dst = some n → n < act.tmps.size := by
    intro n hn
    rw [hn] at hdN
    simp only [decide_eq_true_eq] at hdN
    omega
  unfold InsFact at hf
  split at hf
  · exact hf.elim
  · rename_i hgo
    subst hf
    have hw := wanted_run he hgd hgo
    unfold wpOpIn
    rw [ho]
    dsimp only
    rw [hw, if_neg (by simp)]
    refine ⟨fun _ _ => trivial, hK _ _ F β ?_ (Step.refl hi _) (put_size _ _) (put_defers _ _) (Nat.le_refl _)⟩
    rw [hdst]
    exact ERep_putE he rfl hd
  · rename_i hgo
    have hw := wanted_run he hgd hgo
    cases i with
    | m dst g x =>
      obtain ⟨a, h2, rfl⟩ := hf
      refine wpIn_of_opOk ho (no_defer_MV hc) hw (tg := 0) (mv_ok hc he hi h2) fun v w' F' β' hx hs => ?_
      rw [show o.dst = dst from hdst]
      exact hK _ _ F' β' (ERep_putE (he.later hs.later) hx hd) (hs.mono fun g h => .inl h) (put_size _ _) (put_defers _ _) (Nat.le_refl _)
    | p dst g x =>
      obtain ⟨a, h2, rfl⟩ := hf
      refine wpIn_of_opOk ho (no_defer_PO hc) hw (tg := 0) (po_ok hc he hi h2) fun v w' F' β' hx hs => ?_
      rw [show o.dst = dst from hdst]
      exact hK _ _ F' β' (ERep_putE (he.later hs.later) hx hd) (hs.mono fun g h => .inl h) (put_size _ _) (put_defers _ _) (Nat.le_refl _)
    | r dst g x =>
      obtain ⟨a, h2, rfl⟩ := hf
      refine wpIn_of_opOk ho (no_defer_RO hc) hw (tg := 0) (ro_ok hc he hi h2) fun v w' F' β' hx hs => ?_
      rw [show o.dst = dst from hdst]
      exact hK _ _ F' β' (ERep_putE (he.later hs.later) hx hd) (hs.mono fun g h => .inl h) (put_size _ _) (put_defers _ _) (Nat.le_refl _)
    | w dst g x =>
      obtain ⟨p, h2, rfl⟩ := hf
      refine wpIn_of_opOk ho (no_defer_WO hc) hw (tg := t0 + j) (wo_ok hc he hi (hg rfl) h2) fun v w' F' β' hx hs => ?_
      rw [show o.dst = dst from hdst]
      exact hK _ _ F' β' (ERep_putE (he.later hs.later) hx hd) (hs.mono fun g h => .inr (.inl ⟨rfl, h⟩)) (put_size _ _) (put_defers _ _) (Nat.le_refl _)
    | fin g n s y =>
      obtain ⟨a, b, p, h2, h3, h4, rfl⟩ := hf
      dsimp only at hc
      split at hc
      · rename_i t s' y' hop
        simp only [Bool.and_eq_true, beq_iff_eq, decide_eq_true_eq] at hc
        obtain ⟨⟨⟨rfl, c2⟩, c3⟩, c4⟩ := hc
        have hb := chkX_spec he c4 h3
        obtain ⟨v, hv, hx⟩ := he s' a h2
        have hev : act.eval (.tmp s') = v := by simp [Act.eval, hv]
        obtain ⟨w', F', g1, g2, g3, g4, g5, g6⟩ := finV_done (P := P) (tg := 0) c2 c3 hi hx hb h4
        have hs : Step num w F β st.ob w' F' β (wrsO st.ob p.2) (fun g => g = 0) := ⟨g2, g3, g4, g6.live, g6.gen⟩
        unfold wpOpIn
        rw [ho]
        dsimp only
        rw [if_pos hw]
        refine ⟨fun _ _ => trivial, ?_⟩
        rw [Oper.semAt_eq _ _ _ (by simp [hop])]
        have hrun : (execOp act.eval o).run P w = .ok .skip w' := by
          simp only [execOp, hop]
          rw [Sem.run_bind, hev, g1]
          rfl
        rw [hrun]
        have hdn : o.dst = none := hdst
        show K (act.put o.dst undef) w'
        rw [hdn]
        exact hK _ _ F' β (ERep_up (he.later hs.later) hv g5) (hs.mono fun g h => .inl h) rfl rfl (Nat.le_refl _)
      · cases hc
    | call dst g f args res =>
      obtain ⟨c, x, hop, hcal, hcf, hcx⟩ := chkCall_spec hc
      cases res with
      | frz ks =>
        obtain ⟨fc, p, b, h2, h3, h4, h5, rfl⟩ := hf
        have hjob := (hS _ _ _ _ _ h5).1
        obtain ⟨us, hlt, hu, hrun⟩ := call_run hop hcal he hcf h2 (fun h => (hjob h).1)
        obtain ⟨hen, hcall⟩ := hjob hlt
        unfold argsOf at h3
        split at h3
        · rename_i as has
          refine wpIn_of_call ho hop hw hrun (call_frz hi h3 h4 (chkArgs he hcx has) hu ⟨hen, hcall⟩) fun e w' hh => ?_
          cases e with
          | returned v =>
            obtain ⟨F', hs, hx⟩ := hh
            rw [show o.dst = dst from hdst]
            refine hK _ _ F' β (ERep_putE (he.later hs.later) hx hd) ?_ (put_size _ _) (put_defers _ _) (Nat.le_refl _)
            show Step num w F β st.ob w' F' β (wrsO st.ob (p.2.2.map .del)) _
            rw [wrsO_del]
            exact hs.mono fun g h => h.elim
          | panicked ch => exact hh.elim
          | outgrown => exact hh.elim
        · cases h3
      | own q k =>
        obtain ⟨fc, p, xs, h2, h3, h4, h5, h6, rfl⟩ := hf
        have hjob := (hS _ _ _ _ _ h5).1
        obtain ⟨us, hlt, hu, hrun⟩ := call_run hop hcal he hcf h2 (fun h => (hjob h).1)
        obtain ⟨hen, hcall⟩ := hjob hlt
        unfold argsOf at h3
        split at h3
        · rename_i as has
          refine wpIn_of_call ho hop hw hrun (call_own (tg := t0 + j) (key := keyOf q (t0 + j)) hi h3 h4 (chkArgs he hcx has) hu (hg rfl) h6 ⟨hen, hcall⟩) fun e w' hh => ?_
          cases e with
          | returned v =>
            obtain ⟨F', β', hs, hx⟩ := hh
            rw [show o.dst = dst from hdst]
            refine hK _ _ F' β' (ERep_putE (he.later hs.later) hx hd) ?_ (put_size _ _) (put_defers _ _) (Nat.le_refl _)
            show Step num w F β st.ob w' F' β' (wrsO st.ob (p.2.2.map .del ++ [_])) _
            rw [wrsO_append, wrsO_del]
            exact hs.mono fun g h => .inr (.inl ⟨rfl, h⟩)
          | panicked ch => exact hh.elim
          | outgrown => exact hh.elim
        · cases h3
    | calli dst g f args =>
      obtain ⟨c, x, hop, hcal, hcf, hcx⟩ := chkCall_spec hc
      obtain ⟨fc, as, ob0, q, h2, h3, h4, h5, rfl⟩ := hf
      have hjob := (hS _ _ _ _ _ h5).1
      obtain ⟨us, hlt, hu, hrun⟩ := call_run hop hcal he hcf h2 (fun h => (hjob h).1)
      obtain ⟨hen, hcall⟩ := hjob hlt
      refine wpIn_of_call ho hop hw hrun (hcall w F β (c.args.toList.map act.eval ++ us) h1 (hi.congr h4) htk (RCv_append (chkXs_spec he hcx h3) hu)) fun e w' hh => ?_
      cases e with
      | returned v =>
        obtain ⟨a, ob', tk', F', β', k1, k2, k3, k4⟩ := hh
        subst k1
        rw [show o.dst = dst from hdst]
        refine hK _ _ F' β' (ERep_putE (he.later k4.later) k3 hd) ?_ (put_size _ _) (put_defers _ _) k2
        exact (k4.congr (fun p => (h4 p).symm) (fun _ => rfl)).mono fun g h => h.imp id fun h => .inr h
      | panicked ch => exact hh.elim
      | outgrown => exact hh.elim
    | cally dst g x args =>
      obtain ⟨c, x', hop, hcal, hcf, hcx⟩ := chkCall_spec hc
      obtain ⟨y, as, fc, ob0, q, ci, h2, h3, h4, h5, h6, h7, rfl⟩ := hf
      rw [Option.bind_eq_some_iff] at h2
      obtain ⟨av, hav, hy⟩ := h2
      unfold ylOf at hy
      split at hy
      case h_2 => cases hy
      rename_i p g'
      cases hy
      have hval := chkX_spec he (show chkX num x' x = true from hcf) hav
      have hl1 := hval.single (by simp) (by simp) rfl
      unfold RC at hl1
      obtain ⟨l, hbl, hl1⟩ := hl1
      simp only [List.cons.injEq, and_true] at hl1
      unfold lpOf at h4
      split at h4
      case h_2 => cases h4
      rename_i g2 f caps hlk
      split at h4
      case isFalse => cases h4
      rename_i hg2
      simp only at hg2 hlk
      subst hg2
      cases h4
      obtain ⟨z, hz, horep⟩ := hi.rep p g' _ hlk
      rw [hbl] at hz
      cases hz
      unfold ORep at horep
      obtain ⟨i, rc, us, hyi, hheap, hlp, hcaps⟩ := horep
      obtain ⟨hround0, hround⟩ := (hS _ _ _ _ _ h6).2 i hyi
      have hvs := chkXs_spec he hcx h3
      have hown := hi.own p g' _ l hlk hbl
      have hul : us.length = i.slots.length := by have := congrArg List.length hlp.vals; simpa using this.symm
      have hcl := RCv_len _ _ hcaps
      have hvl := RCv_len _ _ hvs
      have hal : (c.args.toList.map act.eval).length = i.ps.length := by
        simp only [List.length_append] at hround0
        omega
      have hst := hlp.state
      dsimp only at hst
      have hless : Inv num w F β (rm st.ob p) := hi.fewer fun q x hq => by
        rw [lk_rm] at hq
        split at hq
        · cases hq
        · exact hq
      have hnlive : ¬ liveB β (rm st.ob p) l := by
        rintro ⟨q, g3, o3, m1, m2⟩
        rw [lk_rm] at m1
        split at m1
        · cases m1
        · rename_i hne; exact hne (hi.inj _ _ _ _ _ _ _ m1 hlk m2 hbl)
      have hnl0 : ¬ liveB β ob0 l := fun ⟨q, g3, o3, m1, m2⟩ => hnlive ⟨q, g3, o3, by rw [← h5]; exact m1, m2⟩
      obtain ⟨t1, t2, t3⟩ := set_all i.ps (c.args.toList.map act.eval) rc.tmps (List.nodup_append.1 hlp.good.1).1 hal.symm (fun s hs => Nat.lt_of_lt_of_le (hlp.good.2 s hs) hlp.size)
      have hparams : rc.params = i.ps.toArray := by rw [← hlp.params]
      have hrun : (execOp act.eval o).run P w = .ok (.round l rc.fn ((i.ps.zip (c.args.toList.map act.eval)).foldl (fun t (p, v) => t.setIfInBounds p v) rc.tmps) i.assign i.body) w := by
        have hy := run_yield (P := P) (args := c.args.map act.eval) hheap (by rw [hparams]; simp at hal ⊢; omega)
        simp only [execOp, hop, resolve, hcal, Deferred.ofValue, hl1, Sem.run_bind, Sem.run_pure, Result.andThen_ok, invoke]
        rw [show (#[] : Array Value) ++ c.args.map act.eval = c.args.map act.eval by simp, hy, hparams, hlp.assign, hlp.body]
        congr 2
        rw [← Array.foldl_toList]
        congr 1
        simp [Array.toList_zip]
      have hslot : ∀ (k s : Nat), (i.ps ++ i.slots)[k]? = some s → ((i.ps.zip (c.args.toList.map act.eval)).foldl (fun t (p, v) => t.setIfInBounds p v) rc.tmps)[s]? = ((c.args.toList.map act.eval) ++ us)[k]? := by
        intro k s hk
        by_cases hlt : k < i.ps.length
        · rw [List.getElem?_append_left hlt] at hk
          rw [List.getElem?_append_left (by omega)]
          exact t2 k s hk
        · rw [List.getElem?_append_right (by omega)] at hk
          rw [List.getElem?_append_right (by omega), hal]
          have hmem : s ∉ i.ps := fun hm => (List.nodup_append.1 hlp.good.1).2.2 s hm s (List.mem_of_getElem? hk) rfl
          rw [t3 s hmem]
          have := congrArg (fun l => l[k - i.ps.length]?) hlp.vals
          simp only [List.getElem?_map, hk, Option.map_some] at this
          cases hu : us[k - i.ps.length]? with
          | none => rw [hu] at this; cases this
          | some v => rw [hu] at this; simpa using this
      refine wpIn_of_round ho hop hw hrun (hround w F β (c.args.toList.map act.eval ++ us) l rc _ h1 (hless.congr h5) htk (RCv_append hvs hcaps) hheap hst.1 hst.2 hown.1 hnl0 (by rw [t1]; exact hlp.size) hslot) fun e w' hh => ?_
      cases e with
      | returned v =>
        obtain ⟨c0, ob', tk', F', β', k1, k2, rfl, k4, k5, k6⟩ := hh
        subst k1
        have hci : ci = c0 := by
          unfold intOf at h7
          simp only [k2, if_true, Option.some.injEq] at h7
          exact h7.symm
        subst hci
        rw [show o.dst = dst from hdst]
        have hbl' : β' p g' = some (some l) := k5.later.beta _ _ _ hbl
        have hlsize : l < w.heap.size := hown.2
        refine hK _ _ F' β' (ERep_putE (he.later k5.later) (RX.of_atom rfl) hd) ?_ (put_size _ _) (put_defers _ _) k4
        refine ⟨k5.later, ⟨k5.chg.os, k5.chg.tape, k5.chg.output, k5.chg.size, fun b hb hn => k5.chg.block b hb fun hm => hn ?_, fun b hb => ?_⟩, ?_, fun b hb => ?_, fun p' g3 x3 hx3 => (k5.gen p' g3 x3 hx3).imp id fun hh => hh.imp id fun hh => .inr hh⟩
        · rcases hm with ⟨q, g3, o3, m1, m2⟩ | rfl
          · rw [h5, lk_rm] at m1
            split at m1
            · cases m1
            · exact ⟨q, g3, o3, m1, m2⟩
          · exact ⟨p, g', _, hlk, hbl⟩
        · rcases k5.chg.made b hb with hm | hm | hm
          · exact .inl hm
          · rcases hm with ⟨q, g3, o3, m1, m2⟩ | rfl
            · rw [h5, lk_rm] at m1
              split at m1
              · cases m1
              · exact .inr (.inl ⟨q, g3, o3, m1, m2⟩)
            · exact (k5.out.1 hb).elim
          · exact .inr (.inr hm)
        · refine k5.inv.put (Later.refl _ _ _) (Nat.le_refl _) hbl' ?_ (fun b hb => ?_) fun _ _ _ _ _ _ _ => rfl
          · unfold ORep
            refine ⟨i, _, us, hyi, k6, ?_, RCv.later k5.later _ _ hcaps⟩
            refine ⟨hlp.params, hlp.assign, hlp.body, hlp.size, hlp.vals, hlp.good, ?_⟩
            unfold recOf sOf
            by_cases hc0 : ci = 0
            · simp [hc0]
            · simp [hc0]
          · cases hb
            refine ⟨k5.out.1, Nat.lt_of_lt_of_le hlsize k5.chg.size, fun q g3 o3 hq m1 m2 => k5.out.2 ⟨q, g3, o3, m1, m2⟩⟩
        · obtain ⟨q, g3, o3, m1, m2⟩ := hb
          replace m1 : lk (up ob' p (g', AObj.lp f caps (sOf ci))) q = some (g3, o3) := m1
          rw [lk_up] at m1
          split at m1
          · rename_i e1
            cases m1
            subst e1
            rw [hbl'] at m2
            cases m2
            exact .inl ⟨_, _, _, hlk, hbl⟩
          · rcases k5.live b ⟨q, g3, o3, m1, m2⟩ with ⟨q2, g4, o4, m3, m4⟩ | hm
            · rw [h5, lk_rm] at m3
              split at m3
              · cases m3
              · exact .inl ⟨q2, g4, o4, m3, m4⟩
            · exact .inr hm
      | panicked ch => exact hh.elim
      | outgrown => exact hh.elim
end
end Go.Fw
