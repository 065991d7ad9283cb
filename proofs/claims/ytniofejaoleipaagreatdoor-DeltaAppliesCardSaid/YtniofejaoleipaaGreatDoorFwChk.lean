import Derived.Test.YtniofejaoleipaaGreatDoorFwMap
/-
  An instruction against an operation of the program: what is compared, and what follows.
-/
namespace Go.Fw
variable [YI]

def chkXs (num : Nat → FuncId) : List Operand → List X → Bool
  | [], [] => true
  | x :: xs, y :: ys => chkX num x y && chkXs num xs ys
  | _, _ => false
def chkPs (num : Nat → FuncId) : List (Nat × Operand) → List (Nat × X) → Bool
  | [], [] => true
  | (i, x) :: xs, (j, y) :: ys => i == j && chkX num x y && chkPs num xs ys
  | _, _ => false
def chkXo (num : Nat → FuncId) : Option Operand → Option X → Bool
  | none, none => true
  | some x, some y => chkX num x y
  | _, _ => false

def chkMV (P : Program) (num : Nat → FuncId) (o : Op) (i : MV) : Bool :=
  match i with
  | .mv x => match o with
    | .move y | .assign y => chkX num y x
    | _ => false
  | .pick c a b => match o with
    | .pick c' a' b' => chkX num c' c && chkX num a' a && chkX num b' b
    | _ => false
  | .boxC x => match o with
    | .box _ y => chkX num y x
    | .alloc e => match x with
      | .c z => zeroOk P e z
      | _ => false
    | _ => false
  | .mkfn f caps => match o with
    | .makeFunc (.func g) first captured => num f == g && decide (f < 1000000) && first.toList.isEmpty && chkXs num captured.toList caps
    | _ => false

/-- A call of a builtin: its arguments and their types. -/
def isBuiltin (b : Builtin) (c : Call) : Bool :=
  match c.callee with
  | .builtin b' => decide (b' = b)
  | _ => false

def chkPO (P : Program) (num : Nat → FuncId) (o : Op) (i : PO) : Bool :=
  match i with
  | .build ss z parts => match o with
    | .build t ps => bldOk P t ss z && chkPs num ps.toList parts
    | _ => false
  | .bsl k n z parts => match o with
    | .buildSlice t n' ps => n' == n && elOk P t k z && decide (n * k ≤ 2 ^ 24) && (n != 0 || ps.toList.isEmpty) && chkPs num ps.toList parts
    | _ => false
  | .bin op x y => match o with
    | .binOp op' _ x' y' _ => decide (op' = op) && chkX num x' x && chkX num y' y
    | _ => false
  | .eqt e neg x y => match o with
    | .binOp op' t x' y' _ => decide (op' = if neg then .neq else .eql) && chkEq P e t && chkX num x' x && chkX num y' y
    | _ => false
  | .un op x => match o with
    | .unOp op' _ x' => decide (op' = op) && chkX num x' x
    | _ => false
  | .conv k x => match o with
    | .convert src dst x' => (P.underlying src).isSome && (match P.underlying dst with | some (.int k') => decide (k' = k) | _ => false) && chkX num x' x
    | _ => false
  | .faddr ss f x => match o with
    | .fieldAddr t x' f' => f' == f && (match P.underlying t with | some (.struct fs) => layOk P ss fs.toList f | _ => false) && chkX num x' x
    | _ => false
  | .fld ss f ag x => match o with
    | .field t x' f' => f' == f && (match P.underlying t with
        | some (.struct fs) => match fs.toList[f]?, ss[f]? with
          | some fd, some n => decide (fd.offset = offN ss f) && tyOk P fd.type n ag
          | _, _ => false
        | _ => false) && chkX num x' x
    | _ => false
  | .iaddr k x j => match o with
    | .indexAddr t x' j' => (match P.underlying t with | some (.slice e) => decide ((P.info? e).map (·.size) = some k) | _ => false) && chkX num x' x && chkX num j' j
    | _ => false
  | .idx x j => match o with
    | .index t x' j' => (match P.underlying t with | some .string => true | _ => false) && chkX num x' x && chkX num j' j
    | _ => false
  | .slc k x lo hi => match o with
    | .slice t x' lo' hi' none => slOk P t k && chkX num x' x && chkXo num lo' lo && chkXo num hi' hi
    | _ => false
  | .len str x => match o with
    | .call c => isBuiltin .len c && (match c.args.toList, c.argTypes.toList with | [x'], [t] => chkX num x' x && lenOk P t str | _, _ => false)
    | _ => false
  | .mm mx x ys => match o with
    | .call c => isBuiltin (if mx then .max else .min) c && (match c.args.toList with | x' :: ys' => chkX num x' x && chkXs num ys' ys | _ => false)
    | _ => false
  | .extr x i => match o with
    | .extract x' i' => i' == i && chkX num x' x
    | _ => false
  | .nilchk x => match o with
    | .nilCheck x' => chkX num x' x
    | _ => false

def chkApp (P : Program) (num : Nat → FuncId) (k lim : Nat) (x y : X) (o : Op) : Bool :=
  match o with
  | .call c => isBuiltin .append c && (match c.args.toList, c.argTypes.toList with | [x', y'], [t, u] => chkX num x' x && chkX num y' y && elSz P t k && limOk P t lim && notInt P u | _, _ => false)
  | _ => false

def chkRO (P : Program) (num : Nat → FuncId) (o : Op) (i : RO) : Bool :=
  match i with
  | .load n ag x => match o with
    | .load t x' => tyOk P t n ag && chkX num x' x
    | _ => false
  | .clone k lim x y => chkApp P num k lim x y o
  | .lookup x key d ok => match o with
    | .lookup t x' key' ok' => mapOk P num t d && ok' == ok && chkX num x' x && chkX num key' key
    | _ => false
  | .mlen x => match o with
    | .call c => isBuiltin .len c && (match c.args.toList, c.argTypes.toList with | [x'], [t] => chkX num x' x && mapKey P t | _, _ => false)
    | _ => false

def chkWO (P : Program) (num : Nat → FuncId) (o : Op) (i : WO) : Bool :=
  match i with
  | .alloc _ z => match o with
    | .alloc e => zeroOk P e z
    | _ => false
  | .boxO _ x => match o with
    | .box _ x' => chkX num x' x
    | _ => false
  | .bslO _ k n z parts => match o with
    | .buildSlice t n' ps => n' == n && elOk P t k z && decide (n * k ≤ 2 ^ 24) && chkPs num ps.toList parts
    | _ => false
  | .store n x y => match o with
    | .store t x' y' => decide ((P.info? t).map (·.size) = some n) && decide (0 < n) && chkX num x' x && chkX num y' y
    | _ => false
  | .app _ k lim x y => chkApp P num k lim x y o
  | .cloneO _ k lim x y => chkApp P num k lim x y o
  | .newnil _ _ => match o with
    | .move (.const (.slice none 0 0)) | .assign (.const (.slice none 0 0)) => true
    | _ => false
  | .mkslice _ k lim z n => match o with
    | .makeSlice t l c => elOk P t k z && limOk P t lim && chkX num l n && chkX num c n && (match l, c with | .tmp a, .tmp b => a == b | .const (.int _ a), .const (.int _ b) => decide (a = b) && false | _, _ => false)
    | _ => false
  | .mkmap _ => match o with
    | .makeMap _ none => true
    | _ => false
  | .mapupd x key y => match o with
    | .mapUpdate t x' key' y' | .insert t x' key' y' => mapKey P t && chkX num x' x && chkX num key' key && chkX num y' y
    | _ => false

section
variable {P : Program} {num : Nat → FuncId} {w : World} {F : Nat → Prop} {β : Beta} {ob : Ob} {tg : Nat} {env : Env} {act : Act}

omit [YI] in
theorem chkXs_spec (he : ERep num w F β env act.tmps) : ∀ {xs : List Operand} {ys : List X} {as : List AV}, chkXs num xs ys = true → mapX (X.ev env) ys = some as → RCv num w F β as (xs.map act.eval)
  | [], [], as, _, h => by unfold mapX at h; cases h; simp; unfold RCv; rfl
  | x :: xs, y :: ys, as, hc, h => by
    simp only [chkXs, Bool.and_eq_true] at hc
    unfold mapX at h
    split at h
    · rename_i a as' ha hs
      cases h
      exact RCv_cons.2 ⟨_, _, rfl, chkX_spec he hc.1 ha, chkXs_spec he hc.2 hs⟩
    · cases h
  | [], _ :: _, _, hc, _ => by simp [chkXs] at hc
  | _ :: _, [], _, hc, _ => by simp [chkXs] at hc

omit [YI] in
theorem chkPs_spec (he : ERep num w F β env act.tmps) : ∀ {xs : List (Nat × Operand)} {ys : List (Nat × X)} {as : List (Nat × AV)}, chkPs num xs ys = true → evParts (X.ev env) ys = some as →
    PRep num w F β as (xs.map fun (i, x) => (i, act.eval x))
  | [], [], as, _, h => by unfold evParts at h; cases h; trivial
  | (i, x) :: xs, (j, y) :: ys, as, hc, h => by
    simp only [chkPs, Bool.and_eq_true, beq_iff_eq] at hc
    unfold evParts at h
    split at h
    · rename_i a as' ha hs
      cases h
      exact ⟨hc.1.1.symm, chkX_spec he hc.1.2 ha, chkPs_spec he hc.2 hs⟩
    · cases h
  | [], _ :: _, _, hc, _ => by simp [chkPs] at hc
  | _ :: _, [], _, hc, _ => by simp [chkPs] at hc

omit [YI] in
theorem isBuiltin_spec {b : Builtin} {c : Call} (h : isBuiltin b c = true) : c.callee = .builtin b := by
  unfold isBuiltin at h
  split at h
  · rename_i b' hb; rw [hb]; simp at h; rw [h]
  · cases h

omit [YI] in
theorem toArray_of {α : Type} {a : Array α} {l : List α} (h : a.toList = l) : a = l.toArray := by
  subst h; simp

omit [YI] in
theorem map_arr {α γ : Type} (f : α → γ) (a : Array α) : a.map f = (a.toList.map f).toArray := by
  apply Array.ext'
  simp

omit [YI] in
theorem opt1_some {o : Option AV} {k : AV → Option AV} {r : AV} (h : opt1 o k = some r) : ∃ a, o = some a ∧ k a = some r := by
  unfold opt1 at h
  cases o with
  | none => cases h
  | some a => exact ⟨a, rfl, h⟩
omit [YI] in
theorem opt2_some {o o' : Option AV} {k : AV → AV → Option AV} {r : AV} (h : opt2 o o' k = some r) : ∃ a b, o = some a ∧ o' = some b ∧ k a b = some r := by
  unfold opt2 at h
  cases o with
  | none => cases h
  | some a => cases o' with
    | none => cases h
    | some b => exact ⟨a, b, rfl, rfl, h⟩
omit [YI] in
theorem optP_some {α γ : Type} {o : Option α} {k : α → Option γ} {r : γ} (h : optP o k = some r) : ∃ a, o = some a ∧ k a = some r := by
  unfold optP at h
  cases o with
  | none => cases h
  | some a => exact ⟨a, rfl, h⟩
omit [YI] in
theorem optM_some {γ : Type} {o : Option AV} {k : AV → MO γ} {r : γ} (h : (optM o k).run ob = some r) : ∃ a, o = some a ∧ (k a).run ob = some r := by
  unfold optM at h
  cases o with
  | none => cases h
  | some a => exact ⟨a, rfl, h⟩
omit [YI] in
theorem optN_some {α γ : Type} {o : Option α} {k : α → MO γ} {r : γ} (h : (optN o k).run ob = some r) : ∃ a, o = some a ∧ (k a).run ob = some r := by
  unfold optN at h
  cases o with
  | none => cases h
  | some a => exact ⟨a, rfl, h⟩

theorem mv_ok {o : Oper} {i : MV} (hc : chkMV P num o.op i = true) (he : ERep num w F β env act.tmps) (hi : Inv num w F β ob) {a : AV} (h : i.sem (X.ev env) = some a) : OpOk P num o act w F β ob ob tg a := by
  cases i with
  | mv x =>
    simp only [chkMV] at hc
    split at hc
    · rename_i y hop
      exact OpOk.pure (v := act.eval y) hi (by simp [execOp, hop]) (chkX_spec he hc h)
    · rename_i y hop
      exact OpOk.pure (v := act.eval y) hi (by simp [execOp, hop]) (chkX_spec he hc h)
    · cases hc
  | pick c x y =>
    simp only [chkMV] at hc
    split at hc
    · rename_i c' x' y' hop
      simp only [Bool.and_eq_true] at hc
      obtain ⟨cv, h1, h2⟩ := opt1_some h
      unfold pickV at h2
      split at h2
      · rename_i t
        have e := (chkX_spec he hc.1.1 h1).atom_inv
        cases t with
        | true =>
          simp only [if_true] at h2
          exact OpOk.pure (v := act.eval x') hi (by simp [execOp, hop, e, asBool]) (chkX_spec he hc.1.2 h2)
        | false =>
          simp only [Bool.false_eq_true, if_false] at h2
          exact OpOk.pure (v := act.eval y') hi (by simp [execOp, hop, e, asBool]) (chkX_spec he hc.2 h2)
      · cases h2
    · cases hc
  | boxC x =>
    simp only [chkMV] at hc
    obtain ⟨v, h1, h2⟩ := opt1_some h
    cases h2
    split at hc
    · rename_i e y hop
      exact OpOk.of_done (by simp only [execOp, hop] <;> rfl) (done_boxC hi (chkX_spec he hc h1))
    · rename_i e hop
      split at hc
      · rename_i z
        cases h1
        exact OpOk.of_done (by simp only [execOp, hop] <;> rfl) (done_allocC hi hc _)
      · cases hc
    · cases hc
  | mkfn f caps =>
    simp only [chkMV] at hc
    split at hc
    · rename_i g first captured hop
      simp only [Bool.and_eq_true, beq_iff_eq, decide_eq_true_eq] at hc
      obtain ⟨⟨⟨hg, hlt⟩, h0⟩, h3⟩ := hc
      obtain ⟨cs, h1, h2⟩ := optP_some h
      cases h2
      have hf : first = #[] := by
        apply Array.ext'
        simpa using h0
      subst hf
      refine OpOk.pure (v := .func (.func g) #[] (captured.map act.eval)) hi (by simp [execOp, hop, Instr.makeFunc]) (RX.of_single ?_ rfl)
      unfold RC
      refine ⟨captured.toList.map act.eval, ?_, chkXs_spec he h3 h1, hlt⟩
      rw [hg]
      congr 2
      apply Array.ext'
      simp
    · cases hc

theorem OpOk.of_run {o : Oper} {s : Sem Value} {r : AV} (he : execOp act.eval o = (do Pure.pure (Next.value (← s)) : Sem Next)) (hi : Inv num w F β ob) (h : ∃ v, s.run P w = .ok v w ∧ RX num w F β r v) :
    OpOk P num o act w F β ob ob tg r := by
  obtain ⟨v, h1, h2⟩ := h
  exact OpOk.pure hi (by rw [he]; simp [h1]) h2

omit [YI] in
theorem exec_builtin {o : Oper} {c : Call} {b : Builtin} (hop : o.op = .call c) (hb : c.callee = .builtin b) :
    (execOp act.eval o) = builtin b c.argTypes o.type (c.args.map fun | .const _ => true | _ => false) (c.args.map act.eval) := by
  simp only [execOp, hop, resolve, hb]
  rfl

theorem po_ok {o : Oper} {i : PO} (hc : chkPO P num o.op i = true) (he : ERep num w F β env act.tmps) (hi : Inv num w F β ob) {r : AV} (h : i.sem (X.ev env) = some r) : OpOk P num o act w F β ob ob tg r := by
  cases i with
  | build ss z parts =>
    simp only [chkPO] at hc
    split at hc
    · rename_i t ps hop
      simp only [Bool.and_eq_true] at hc
      obtain ⟨as, h1, h2⟩ := optP_some h
      refine OpOk.of_run (by simp only [execOp, hop] <;> rfl) hi ?_
      have := buildV_run (P := P) hc.1 as _ r (chkPs_spec he hc.2 h1) h2
      rw [map_arr]
      exact this
    · cases hc
  | bsl k n z parts =>
    simp only [chkPO] at hc
    split at hc
    · rename_i t n' ps hop
      simp only [Bool.and_eq_true, beq_iff_eq, decide_eq_true_eq, Bool.or_eq_true, bne_iff_ne, ne_eq] at hc
      obtain ⟨⟨⟨⟨rfl, h4⟩, h5⟩, h6⟩, h7⟩ := hc
      obtain ⟨as, h1, h2⟩ := optP_some h
      refine OpOk.of_done (by simp only [execOp, hop] <;> rfl) ?_
      have := done_bsl (P := P) (tg := tg) hi h4 h5 as _ r (chkPs_spec he h7 h1) (fun h0 => by
        rcases h6 with h6 | h6
        · exact (h6 h0).elim
        · simp at h6; simp [h6]) h2
      rw [map_arr]
      exact this
    · cases hc
  | bin op x y =>
    simp only [chkPO] at hc
    split at hc
    · rename_i op' t x' y' u hop
      simp only [Bool.and_eq_true, decide_eq_true_eq] at hc
      obtain ⟨⟨rfl, h4⟩, h5⟩ := hc
      obtain ⟨a, b, h1, h2, h3⟩ := opt2_some h
      have ha := chkX_spec he h4 h1
      have hb := chkX_spec he h5 h2
      obtain ⟨v, hv, hr⟩ := abin_run (P := P) op' t a b r _ _ ha hb h3
      refine OpOk.pure (v := v) hi ?_ hr
      have hg : (eqGuard op' t x' y' (act.eval x') (act.eval y')).run P w = .ok () w := by
        unfold abin at h3
        split at h3
        · rw [ha.atom_inv, hb.atom_inv]
          cases op' <;> simp [eqGuard]
        · rw [ha.atom_inv, hb.atom_inv]
          cases op' <;> simp [eqGuard]
        · cases h3
      simp [execOp, hop, hg, hv]
    · cases hc
  | eqt e neg x y =>
    simp only [chkPO] at hc
    split at hc
    · rename_i op' t x' y' u hop
      simp only [Bool.and_eq_true, decide_eq_true_eq] at hc
      obtain ⟨⟨⟨rfl, h3⟩, h4⟩, h5⟩ := hc
      obtain ⟨a, b, h1, h2, h6⟩ := opt2_some h
      obtain ⟨v, hv, hr⟩ := eqtV_run (P := P) hop h3 a b r (chkX_spec he h4 h1) (chkX_spec he h5 h2) h6
      exact OpOk.pure hi hv hr
    · cases hc
  | un op x =>
    simp only [chkPO] at hc
    split at hc
    · rename_i op' t x' hop
      simp only [Bool.and_eq_true, decide_eq_true_eq] at hc
      obtain ⟨rfl, h4⟩ := hc
      obtain ⟨a, h1, h2⟩ := opt1_some h
      exact OpOk.of_run (by simp only [execOp, hop] <;> rfl) hi (aun_run op' a r _ (chkX_spec he h4 h1) h2)
    · cases hc
  | conv k x =>
    simp only [chkPO] at hc
    split at hc
    · rename_i src dst x' hop
      simp only [Bool.and_eq_true] at hc
      obtain ⟨⟨h3, h4⟩, h5⟩ := hc
      obtain ⟨d, hd⟩ := Option.isSome_iff_exists.1 h3
      split at h4
      · rename_i k' hk
        simp only [decide_eq_true_eq] at h4
        subst h4
        obtain ⟨a, h1, h2⟩ := opt1_some h
        exact OpOk.of_run (by simp only [execOp, hop] <;> rfl) hi (convV_run hd hk a r _ (chkX_spec he h5 h1) h2)
      · cases h4
    · cases hc
  | faddr ss f x =>
    simp only [chkPO] at hc
    split at hc
    · rename_i t x' f' hop
      simp only [Bool.and_eq_true, beq_iff_eq] at hc
      obtain ⟨⟨rfl, h4⟩, h5⟩ := hc
      split at h4
      · rename_i fs hd
        obtain ⟨a, h1, h2⟩ := opt1_some h
        exact OpOk.of_run (by simp only [execOp, hop] <;> rfl) hi (faddrV_run hd h4 a r _ (chkX_spec he h5 h1) h2)
      · cases h4
    · cases hc
  | fld ss f ag x =>
    simp only [chkPO] at hc
    split at hc
    · rename_i t x' f' hop
      simp only [Bool.and_eq_true, beq_iff_eq] at hc
      obtain ⟨⟨rfl, h4⟩, h5⟩ := hc
      split at h4
      · rename_i fs hd
        split at h4
        · rename_i fd n hf hn
          simp only [Bool.and_eq_true, decide_eq_true_eq] at h4
          obtain ⟨a, h1, h2⟩ := opt1_some h
          exact OpOk.of_run (by simp only [execOp, hop] <;> rfl) hi (fldV_run hd (by simpa using hf) hn h4.1 h4.2 a r _ (chkX_spec he h5 h1) h2)
        · cases h4
      · cases h4
    · cases hc
  | iaddr k x j =>
    simp only [chkPO] at hc
    split at hc
    · rename_i t x' j' hop
      simp only [Bool.and_eq_true] at hc
      obtain ⟨⟨h3, h4⟩, h5⟩ := hc
      split at h3
      · rename_i e hd
        simp only [decide_eq_true_eq] at h3
        obtain ⟨info, hinfo, hsz⟩ := Option.map_eq_some_iff.1 h3
        obtain ⟨a, b, h1, h2, h6⟩ := opt2_some h
        exact OpOk.of_run (by simp only [execOp, hop] <;> rfl) hi (iaddrV_run hd hinfo hsz a b r _ _ (chkX_spec he h4 h1) (chkX_spec he h5 h2) h6)
      · cases h3
    · cases hc
  | idx x j =>
    simp only [chkPO] at hc
    split at hc
    · rename_i t x' j' hop
      simp only [Bool.and_eq_true] at hc
      obtain ⟨⟨h3, h4⟩, h5⟩ := hc
      split at h3
      · rename_i hd
        obtain ⟨a, b, h1, h2, h6⟩ := opt2_some h
        exact OpOk.of_run (by simp only [execOp, hop] <;> rfl) hi (idxV_run hd a b r _ _ (chkX_spec he h4 h1) (chkX_spec he h5 h2) h6)
      · cases h3
    · cases hc
  | slc k x lo hi' =>
    simp only [chkPO] at hc
    split at hc
    · rename_i t x' lo' hi'' hop
      simp only [Bool.and_eq_true] at hc
      obtain ⟨⟨⟨h3, h4⟩, h5⟩, h6⟩ := hc
      obtain ⟨a, h1, h2⟩ := opt1_some h
      have ha := chkX_spec he h4 h1
      refine OpOk.of_run (s := Instr.sliceAt t (act.eval x') (lo'.map act.eval) (hi''.map act.eval) none) (by simp only [execOp, hop] <;> rfl) hi ?_
      cases lo with
      | none =>
        cases lo' with
        | some _ => cases h5
        | none =>
          cases hi' with
          | none =>
            cases hi'' with
            | some _ => cases h6
            | none => exact slcV_run h3 a r _ none none none none trivial trivial ha h2
          | some q =>
            cases hi'' with
            | none => cases h6
            | some q' =>
              obtain ⟨b, g1, g2⟩ := opt1_some h2
              exact slcV_run h3 a r _ none (some b) none (some (act.eval q')) trivial (chkX_spec he h6 g1) ha g2
      | some l =>
        cases lo' with
        | none => cases h5
        | some l' =>
          obtain ⟨c, f1, f2⟩ := opt1_some h2
          cases hi' with
          | none =>
            cases hi'' with
            | some _ => cases h6
            | none => exact slcV_run h3 a r _ (some c) none (some (act.eval l')) none (chkX_spec he h5 f1) trivial ha f2
          | some q =>
            cases hi'' with
            | none => cases h6
            | some q' =>
              obtain ⟨b, g1, g2⟩ := opt1_some f2
              exact slcV_run h3 a r _ (some c) (some b) (some (act.eval l')) (some (act.eval q')) (chkX_spec he h5 f1) (chkX_spec he h6 g1) ha g2
    · cases hc
  | len str x =>
    simp only [chkPO] at hc
    split at hc
    · rename_i c hop
      simp only [Bool.and_eq_true] at hc
      obtain ⟨h3, h4⟩ := hc
      split at h4
      · rename_i x' t ha ht
        simp only [Bool.and_eq_true] at h4
        obtain ⟨a, h1, h2⟩ := opt1_some h
        refine OpOk.of_run (s := Builtin.len_ #[t] o.type #[act.eval x']) ?_ hi (lenV_run h4.2 a r _ (chkX_spec he h4.1 h1) h2)
        rw [exec_builtin hop (isBuiltin_spec h3), toArray_of ha, toArray_of ht]
        simp [builtin]
      · cases h4
    · cases hc
  | mm mx x ys =>
    simp only [chkPO] at hc
    split at hc
    · rename_i c hop
      simp only [Bool.and_eq_true] at hc
      obtain ⟨h3, h4⟩ := hc
      split at h4
      · rename_i x' ys' ha
        simp only [Bool.and_eq_true] at h4
        obtain ⟨a, h1, h2⟩ := opt1_some h
        obtain ⟨bs, h5, h6⟩ := optP_some h2
        obtain ⟨v, hv, hr⟩ := mmFold_run (P := P) mx bs _ a r _ (chkX_spec he h4.1 h1) (chkXs_spec he h4.2 h5) h6
        refine OpOk.pure (v := v) hi ?_ hr
        rw [exec_builtin hop (isBuiltin_spec h3), toArray_of ha]
        cases mx with
        | true => simp only [if_true] at hv ⊢; simp [builtin, Builtin.max_, hv]
        | false => simp only [Bool.false_eq_true, if_false] at hv ⊢; simp [builtin, Builtin.min_, hv]
      · cases h4
    · cases hc
  | extr x j =>
    simp only [chkPO] at hc
    split at hc
    · rename_i x' j' hop
      simp only [Bool.and_eq_true, beq_iff_eq] at hc
      obtain ⟨rfl, h4⟩ := hc
      obtain ⟨a, h1, h2⟩ := opt1_some h
      exact OpOk.of_run (by simp only [execOp, hop] <;> rfl) hi (extrV_run j' a r _ (chkX_spec he h4 h1) h2)
    · cases hc
  | nilchk x =>
    simp only [chkPO] at hc
    split at hc
    · rename_i x' hop
      obtain ⟨a, h1, h2⟩ := opt1_some h
      obtain ⟨v, hv, hr⟩ := nilchkV_run (P := P) hop a r (chkX_spec he hc h1) h2
      exact OpOk.pure hi hv hr
    · cases hc

theorem app_ok {o : Oper} {k lim : Nat} {x y : X} (hc : chkApp P num k lim x y o.op = true) (he : ERep num w F β env act.tmps) {ob' : Ob} {r : AV} {a b : AV} (h1 : x.ev env = some a) (h2 : y.ev env = some b)
    (h : ∀ (t u : TypeId) (v1 v2 : Value), elSz P t k = true → limOk P t lim = true → notInt P u = true → RX num w F β a v1 → RX num w F β b v2 → Done P num (Builtin.append_ #[t, u] o.type #[v1, v2]) w F β ob ob' tg r) :
    OpOk P num o act w F β ob ob' tg r := by
  unfold chkApp at hc
  split at hc
  · rename_i c hop
    simp only [Bool.and_eq_true] at hc
    obtain ⟨h3, h4⟩ := hc
    split at h4
    · rename_i x' y' t u ha ht
      simp only [Bool.and_eq_true] at h4
      obtain ⟨⟨⟨⟨h5, h6⟩, h7⟩, h8⟩, h9⟩ := h4
      refine OpOk.of_done (s := Builtin.append_ #[t, u] o.type #[act.eval x', act.eval y']) ?_ (h t u _ _ h7 h8 h9 (chkX_spec he h5 h1) (chkX_spec he h6 h2))
      rw [exec_builtin hop (isBuiltin_spec h3), toArray_of ha, toArray_of ht]
      simp [builtin]
    · cases h4
  · cases hc

theorem ro_ok {o : Oper} {i : RO} (hc : chkRO P num o.op i = true) (he : ERep num w F β env act.tmps) (hi : Inv num w F β ob) {r : AV} (h : (i.sem (X.ev env)).run ob = some r) : OpOk P num o act w F β ob ob tg r := by
  cases i with
  | load n ag x =>
    simp only [chkRO] at hc
    split at hc
    · rename_i t x' hop
      simp only [Bool.and_eq_true] at hc
      obtain ⟨a, h1, h2⟩ := optM_some h
      exact OpOk.of_run (by simp only [execOp, hop] <;> rfl) hi (loadV_run hc.1 hi a r _ (chkX_spec he hc.2 h1) h2)
    · cases hc
  | clone k lim x y =>
    simp only [chkRO] at hc
    obtain ⟨a, h1, h2⟩ := optM_some h
    obtain ⟨b, h3, h4⟩ := optM_some h2
    exact app_ok hc he h1 h3 fun t u v1 v2 g1 g2 g3 g4 g5 => cloneV_done hi g1 g2 g3 g4 g5 h4
  | lookup x key d ok =>
    simp only [chkRO] at hc
    split at hc
    · rename_i t x' key' ok' hop
      simp only [Bool.and_eq_true, beq_iff_eq] at hc
      obtain ⟨⟨⟨h3, rfl⟩, h4⟩, h5⟩ := hc
      obtain ⟨a, h1, h2⟩ := optM_some h
      obtain ⟨b, h6, h7⟩ := optM_some h2
      exact OpOk.of_run (by simp only [execOp, hop] <;> rfl) hi (lookupV_run h3 hi a b r ok' _ _ (chkX_spec he h4 h1) (chkX_spec he h5 h6) h7)
    · cases hc
  | mlen x =>
    simp only [chkRO] at hc
    split at hc
    · rename_i c hop
      simp only [Bool.and_eq_true] at hc
      obtain ⟨h3, h4⟩ := hc
      split at h4
      · rename_i x' t ha ht
        simp only [Bool.and_eq_true] at h4
        obtain ⟨a, h1, h2⟩ := optM_some h
        refine OpOk.of_run (s := Builtin.len_ #[t] o.type #[act.eval x']) ?_ hi (mlenV_run h4.2 hi a r _ (chkX_spec he h4.1 h1) h2)
        rw [exec_builtin hop (isBuiltin_spec h3), toArray_of ha, toArray_of ht]
        simp [builtin]
      · cases h4
    · cases hc

theorem wo_ok {o : Oper} {i : WO} (hc : chkWO P num o.op i = true) (he : ERep num w F β env act.tmps) (hi : Inv num w F β ob) (hg : ∀ p, β p tg = none) {r : AV × List Wr} (h : (i.sem (X.ev env) tg).run ob = some r) :
    OpOk P num o act w F β ob (wrsO ob r.2) tg r.1 := by
  cases i with
  | alloc p z =>
    simp only [chkWO] at hc
    split at hc
    · rename_i e hop
      obtain ⟨_, rfl⟩ := newV_run h
      exact OpOk.of_done (by simp only [execOp, hop] <;> rfl) (done_alloc hi hg hc _)
    · cases hc
  | boxO p x =>
    simp only [chkWO] at hc
    split at hc
    · rename_i e x' hop
      obtain ⟨a, h1, h2⟩ := optM_some h
      obtain ⟨_, rfl⟩ := newV_run h2
      exact OpOk.of_done (by simp only [execOp, hop] <;> rfl) (done_boxO hi hg (chkX_spec he hc h1))
    · cases hc
  | bslO p k n z parts =>
    simp only [chkWO] at hc
    split at hc
    · rename_i t n' ps hop
      simp only [Bool.and_eq_true, beq_iff_eq, decide_eq_true_eq] at hc
      obtain ⟨⟨⟨rfl, h4⟩, h5⟩, h7⟩ := hc
      obtain ⟨as, h1, h2⟩ := optN_some h
      unfold bslOV opt at h2
      split at h2
      · rename_i xs hxs
        obtain ⟨_, rfl⟩ := newV_run h2
        refine OpOk.of_done (by simp only [execOp, hop] <;> rfl) ?_
        have := done_bslO (P := P) (p := keyOf p tg) hi hg h4 h5 as _ xs (chkPs_spec he h7 h1) hxs
        rw [map_arr]
        simpa [wrsO, wrO] using this
      · cases h2
    · cases hc
  | store n x y =>
    simp only [chkWO] at hc
    split at hc
    · rename_i t x' y' hop
      simp only [Bool.and_eq_true, decide_eq_true_eq] at hc
      obtain ⟨⟨⟨h3, h4⟩, h5⟩, h6⟩ := hc
      obtain ⟨a, h1, h2⟩ := optM_some h
      obtain ⟨b, h7, h8⟩ := optM_some h2
      obtain ⟨w', g1, g2, g3, g4, g5, g6⟩ := storeV_run (P := P) h3 hi a b r.1 _ _ r.2 (chkX_spec he h5 h1) (chkX_spec he h6 h7) h4 h8
      refine ⟨undef, w', F, β, .inr ⟨by simp [execOp, hop, g1], rfl⟩, g2, g3, g4, by rw [g5]; trivial, ⟨fun _ _ _ h => .inl h, fun b hb => .inl (g6 b hb)⟩⟩
    · cases hc
  | app p k lim x y =>
    simp only [chkWO] at hc
    obtain ⟨a, h1, h2⟩ := optM_some h
    obtain ⟨b, h3, h4⟩ := optM_some h2
    exact app_ok hc he h1 h3 fun t u v1 v2 g1 g2 g3 g4 g5 => appV_done hi hg g1 g2 g3 g4 g5 h4
  | cloneO p k lim x y =>
    simp only [chkWO] at hc
    obtain ⟨a, h1, h2⟩ := optM_some h
    obtain ⟨b, h3, h4⟩ := optM_some h2
    exact app_ok hc he h1 h3 fun t u v1 v2 g1 g2 g3 g4 g5 => cloneOV_done hi hg g1 g2 g3 g4 g5 h4
  | newnil p k =>
    simp only [chkWO] at hc
    obtain ⟨_, rfl⟩ := newV_run h
    split at hc
    · rename_i hop
      exact OpOk.of_done (s := Pure.pure (.slice none 0 0)) (by simp [execOp, hop, Act.eval]) (done_newnil hi hg)
    · rename_i hop
      exact OpOk.of_done (s := Pure.pure (.slice none 0 0)) (by simp [execOp, hop, Act.eval]) (done_newnil hi hg)
    · cases hc
  | mkslice p k lim z n =>
    simp only [chkWO] at hc
    split at hc
    · rename_i t l c hop
      simp only [Bool.and_eq_true] at hc
      obtain ⟨⟨⟨⟨h3, h4⟩, h5⟩, h6⟩, h7⟩ := hc
      have hlc : act.eval l = act.eval c := by
        split at h7
        · rename_i a b; have := eq_of_beq h7; subst this; rfl
        · simp at h7
        · cases h7
      obtain ⟨a, h1, h2⟩ := optM_some h
      refine OpOk.of_done (s := Instr.makeSlice t (act.eval l) (act.eval l)) (by simp only [execOp, hop, ← hlc]) (done_mkslice hi hg h3 h4 (chkX_spec he h5 h1) h2)
    · cases hc
  | mkmap p =>
    simp only [chkWO] at hc
    split at hc
    · rename_i t hop
      obtain ⟨_, rfl⟩ := newV_run h
      exact OpOk.of_done (s := Instr.makeMap t none) (by simp only [execOp, hop] <;> rfl) (done_mkmap hi hg)
    · cases hc
  | mapupd x key y =>
    simp only [chkWO] at hc
    obtain ⟨a, h1, h2⟩ := optM_some h
    obtain ⟨b, h3, h4⟩ := optM_some h2
    obtain ⟨c, h5, h6⟩ := optM_some h4
    split at hc
    all_goals first | (cases hc; done) | skip
    all_goals
      rename_i t x' key' y' hop
      simp only [Bool.and_eq_true] at hc
      obtain ⟨⟨⟨g1, g2⟩, g3⟩, g4⟩ := hc
      obtain ⟨w', k1, k2, k3, k4, k5, k6⟩ := mapupdV_run (P := P) (tg := tg) g1 hi a b c r _ _ _ (chkX_spec he g2 h1) (chkX_spec he g3 h3) (chkX_spec he g4 h5) h6
      exact ⟨undef, w', F, β, .inr ⟨by simp [execOp, hop, k1], rfl⟩, k2, k3, k4, by rw [k5]; rfl, k6⟩
end
end Go.Fw
