import Derived.Test.YtniofejaoleipaaGreatDoorFwPure2
/-
  Comparing values of a type.
-/
namespace Go.Fw
variable [YI]

mutual
def EqSh.deep : EqSh → Nat
  | .st _ fs => EqSh.deeps fs + 1
  | _ => 0
def EqSh.deeps : List EqSh → Nat
  | [] => 0
  | e :: es => max e.deep (EqSh.deeps es)
end
def EqSh.isSt : EqSh → Bool
  | .st .. => true
  | _ => false

mutual
/-- A type is compared as e says. -/
def chkE (P : Program) : EqSh → TypeId → Bool
  | .int, t => match P.underlying t with | some (.int _) => true | _ => false
  | .bool, t => match P.underlying t with | some .bool => true | _ => false
  | .str, t => match P.underlying t with | some .string => true | _ => false
  | .ptr, t => match P.underlying t with | some (.pointer _) => true | _ => false
  | .slc, t => match P.underlying t with | some (.slice _) => true | _ => false
  | .fnc, t => match P.underlying t with | some (.func _ _ _) => true | _ => false
  | .st ss es, t => match P.underlying t with
    | some (.struct fs) => !P.stoodInHeld t && chkEs P ss es fs.toList 0
    | _ => false
def chkEs (P : Program) : List Nat → List EqSh → List Field → Nat → Bool
  | [], [], [], _ => true
  | n :: ss, e :: es, f :: fs, off => f.name != "_" && decide (f.offset = off) && tyOk P f.type n e.isSt && chkE P e f.type && chkEs P ss es fs (off + n)
  | _, _, _, _ => false
end

section
variable {P : Program} {num : Nat → FuncId} {w : World} {F : Nat → Prop} {β : Beta}

omit [YI] in
theorem RX.cell {a : AV} {x : Value} (ha : RX num w F β a x) (hu : a ≠ .und) (ht : ∀ vs, a ≠ .tup vs) (hg : a.isAgg = false) {y : Value} (h : RC num w F β a [x] → x = y) : x = y :=
  h (ha.single hu ht hg)

omit [YI] in
theorem eqInt_run {t : TypeId} (hc : chkE P .int t = true) (d : Nat) {a b : AV} {r : Bool} {x y : Value} (ha : RX num w F β a x) (hb : RX num w F β b y) (h : eqInt a b = some r) :
    (Op.equalIn (d + 1) t x y).run P w = .ok r w := by
  unfold chkE at hc
  split at hc <;> first | (cases hc; done) | skip
  rename_i hu
  unfold eqInt at h
  split at h
  · have e1 := ha.atom_inv
    have e2 := hb.atom_inv
    subst e1
    subst e2
    split at h
    · rename_i hk
      subst hk
      cases h
      simp [Op.equalIn, run_underlying hu]
    · cases h
  · cases h
omit [YI] in
theorem eqBool_run {t : TypeId} (hc : chkE P .bool t = true) (d : Nat) {a b : AV} {r : Bool} {x y : Value} (ha : RX num w F β a x) (hb : RX num w F β b y) (h : eqBool a b = some r) :
    (Op.equalIn (d + 1) t x y).run P w = .ok r w := by
  unfold chkE at hc
  split at hc <;> first | (cases hc; done) | skip
  rename_i hu
  unfold eqBool at h
  split at h
  · have e1 := ha.atom_inv
    have e2 := hb.atom_inv
    subst e1
    subst e2
    cases h
    simp [Op.equalIn, run_underlying hu]
  · cases h
omit [YI] in
theorem eqStr_run {t : TypeId} (hc : chkE P .str t = true) (d : Nat) {a b : AV} {r : Bool} {x y : Value} (ha : RX num w F β a x) (hb : RX num w F β b y) (h : eqStr a b = some r) :
    (Op.equalIn (d + 1) t x y).run P w = .ok r w := by
  unfold chkE at hc
  split at hc <;> first | (cases hc; done) | skip
  rename_i hu
  unfold eqStr at h
  split at h
  · have e1 := ha.atom_inv
    have e2 := hb.atom_inv
    subst e1
    subst e2
    cases h
    rw [run_equalIn_string w d t _ _ hu, beq_toList]
  · cases h

omit [YI] in
theorem RX.ptr_inv {p g : Nat} {path : List Nat} {off : Nat} {x : Value} (h : RX num w F β (.ptr p g path off) x) : ∃ ad, x = .pointer (some ad) := by
  have h1 := h.single (by simp) (by simp) rfl
  unfold RC at h1
  obtain ⟨b, _, h1⟩ := h1
  simp only [List.cons.injEq, and_true] at h1
  exact ⟨_, h1⟩
omit [YI] in
theorem RX.cptr_inv {a : AV} {x : Value} (h : RX num w F β (.cptr a) x) : ∃ ad, x = .pointer (some ad) := by
  have h1 := h.single (by simp) (by simp) rfl
  unfold RC at h1
  obtain ⟨b, _, h1, _⟩ := h1
  simp only [List.cons.injEq, and_true] at h1
  exact ⟨_, h1⟩
omit [YI] in
theorem RX.fn_inv {f : Nat} {caps : List AV} {x : Value} (h : RX num w F β (.fn f caps) x) : ∃ vs : List Value, x = .func (.func (num f)) #[] vs.toArray ∧ RCv num w F β caps vs ∧ f < 1000000 := by
  have h1 := h.single (by simp) (by simp) rfl
  unfold RC at h1
  obtain ⟨vs, h1, h2⟩ := h1
  simp only [List.cons.injEq, and_true] at h1
  exact ⟨vs, h1, h2⟩
omit [YI] in
theorem RX.nil_inv {x : Value} (h : RX num w F β .nil x) : x = .slice none 0 0 := by
  have h1 := h.single (by simp) (by simp) rfl
  unfold RC at h1
  simp only [List.cons.injEq, and_true] at h1
  exact h1
omit [YI] in
theorem RX.e0_inv {x : Value} (h : RX num w F β .e0 x) : ∃ a : Addr, a.spot = none ∧ x = .slice (some a) 0 0 := by
  have h1 := h.single (by simp) (by simp) rfl
  unfold RC at h1
  obtain ⟨a, h0, h1⟩ := h1
  simp only [List.cons.injEq, and_true] at h1
  exact ⟨a, h0, h1⟩
omit [YI] in
theorem RX.sl_inv {k : Nat} {xs : List AV} {x : Value} (h : RX num w F β (.sl k xs) x) : (x = .slice none 0 0 ∧ xs = []) ∨ ∃ a cap ds, x = .slice (some a) xs.length cap ∧ xs.length ≤ cap ∧ Row w F a ds ∧ RCk num w F β k xs ds := by
  have h1 := h.single (by simp) (by simp) rfl
  unfold RC at h1
  rcases h1 with ⟨h1, h2⟩ | ⟨a, cap, ds, h1, h2⟩
  · simp only [List.cons.injEq, and_true] at h1; exact .inl ⟨h1, h2⟩
  · simp only [List.cons.injEq, and_true] at h1; exact .inr ⟨a, cap, ds, h1, h2⟩
omit [YI] in
theorem RX.own_inv {p g k off n : Nat} {x : Value} (h : RX num w F β (.own p g k off n) x) : (∃ y : Option Addr, (∀ a, y = some a → a.spot = none) ∧ x = .slice y 0 0 ∧ n = 0) ∨
      ∃ b cap m, β p g = some (some b) ∧ x = .slice (some ⟨b, off * k, none⟩) n cap ∧ n ≤ cap ∧ cap ≤ maxLen ∧ blkSize w b = some m ∧ (off + cap) * k ≤ m := by
  have h1 := h.single (by simp) (by simp) rfl
  unfold RC at h1
  rcases h1 with ⟨y, hy, h1, h2⟩ | ⟨b, cap, m, hb, h1, h2⟩
  · simp only [List.cons.injEq, and_true] at h1; exact .inl ⟨y, hy, h1, h2⟩
  · simp only [List.cons.injEq, and_true] at h1; exact .inr ⟨b, cap, m, hb, h1, h2⟩

omit [YI] in
theorem eqPtr_run {t : TypeId} (hc : chkE P .ptr t = true) (d : Nat) {a b : AV} {r : Bool} {x y : Value} (ha : RX num w F β a x) (hb : RX num w F β b y) (h : eqPtr a b = some r) :
    (Op.equalIn (d + 1) t x y).run P w = .ok r w := by
  unfold chkE at hc
  split at hc <;> first | (cases hc; done) | skip
  rename_i hu
  unfold eqPtr at h
  split at h
  · have e1 := ha.atom_inv
    have e2 := hb.atom_inv
    subst e1
    subst e2
    cases h
    simp [Op.equalIn, run_underlying hu]
  · have e2 := hb.atom_inv
    obtain ⟨ad, e1⟩ := ha.ptr_inv
    subst e1
    subst e2
    cases h
    simp [Op.equalIn, run_underlying hu]
  · have e2 := ha.atom_inv
    obtain ⟨ad, e1⟩ := hb.ptr_inv
    subst e1
    subst e2
    cases h
    simp [Op.equalIn, run_underlying hu]
  · have e2 := hb.atom_inv
    obtain ⟨ad, e1⟩ := ha.cptr_inv
    subst e1
    subst e2
    cases h
    simp [Op.equalIn, run_underlying hu]
  · have e2 := ha.atom_inv
    obtain ⟨ad, e1⟩ := hb.cptr_inv
    subst e1
    subst e2
    cases h
    simp [Op.equalIn, run_underlying hu]
  · cases h

omit [YI] in
theorem eqSlc_run {t : TypeId} (hc : chkE P .slc t = true) (d : Nat) {a b : AV} {r : Bool} {x y : Value} (ha : RX num w F β a x) (hb : RX num w F β b y) (h : eqSlc a b = some r) :
    (Op.equalIn (d + 1) t x y).run P w = .ok r w := by
  unfold chkE at hc
  split at hc <;> first | (cases hc; done) | skip
  rename_i hu
  unfold eqSlc at h
  split at h
  · have e1 := ha.nil_inv
    have e2 := hb.nil_inv
    subst e1
    subst e2
    cases h
    simp [Op.equalIn, run_underlying hu]
  · have e2 := hb.nil_inv
    subst e2
    split at h
    · cases h
    · rename_i h0
      cases h
      rcases ha.own_inv with ⟨_, _, _, h1⟩ | ⟨_, _, _, _, e1, _⟩
      · exact (h0 h1).elim
      · subst e1
        simp [Op.equalIn, run_underlying hu]
  · have e2 := hb.nil_inv
    subst e2
    split at h
    · cases h
    · rename_i h0
      cases h
      rcases ha.sl_inv with ⟨_, h1⟩ | ⟨_, _, _, e1, _⟩
      · subst h1; exact (h0 rfl).elim
      · subst e1
        simp [Op.equalIn, run_underlying hu]
  · have e2 := hb.nil_inv
    subst e2
    obtain ⟨ad, _, e1⟩ := ha.e0_inv
    subst e1
    cases h
    simp [Op.equalIn, run_underlying hu]
  · cases h

omit [YI] in
theorem eqFnc_run {t : TypeId} (hc : chkE P .fnc t = true) (d : Nat) {a b : AV} {r : Bool} {x y : Value} (ha : RX num w F β a x) (hb : RX num w F β b y) (h : eqFnc a b = some r) :
    (Op.equalIn (d + 1) t x y).run P w = .ok r w := by
  unfold chkE at hc
  split at hc <;> first | (cases hc; done) | skip
  rename_i hu
  unfold eqFnc at h
  split at h
  · have e1 := ha.atom_inv
    have e2 := hb.atom_inv
    subst e1
    subst e2
    cases h
    simp [Op.equalIn, run_underlying hu]
  · have e2 := hb.atom_inv
    obtain ⟨ad, e1, _⟩ := ha.fn_inv
    subst e1
    subst e2
    cases h
    simp [Op.equalIn, run_underlying hu]
  · have e2 := ha.atom_inv
    obtain ⟨ad, e1, _⟩ := hb.fn_inv
    subst e1
    subst e2
    cases h
    simp [Op.equalIn, run_underlying hu]
  · cases h

omit [YI] in
theorem eqS_agg (e : EqSh) {a b : AV} {r : Bool} (h : eqS e a b = some r) : a.isAgg = e.isSt ∧ b.isAgg = e.isSt := by
  cases e with
  | int => simp only [eqS] at h; unfold eqInt at h; split at h <;> first | (cases h; done) | exact ⟨rfl, rfl⟩
  | bool => simp only [eqS] at h; unfold eqBool at h; split at h <;> first | (cases h; done) | exact ⟨rfl, rfl⟩
  | str => simp only [eqS] at h; unfold eqStr at h; split at h <;> first | (cases h; done) | exact ⟨rfl, rfl⟩
  | ptr => simp only [eqS] at h; unfold eqPtr at h; split at h <;> first | (cases h; done) | exact ⟨rfl, rfl⟩
  | slc => simp only [eqS] at h; unfold eqSlc at h; split at h <;> first | (cases h; done) | exact ⟨rfl, rfl⟩
  | fnc => simp only [eqS] at h; unfold eqFnc at h; split at h <;> first | (cases h; done) | exact ⟨rfl, rfl⟩
  | st ss es => simp only [eqS] at h; split at h <;> first | (cases h; done) | exact ⟨rfl, rfl⟩

omit [YI] in
mutual
theorem eqS_run : ∀ (e : EqSh) (d : Nat) (t : TypeId) (a b : AV) (r : Bool) (x y : Value), e.deep ≤ d → chkE P e t = true → RX num w F β a x → RX num w F β b y → eqS e a b = some r →
    (Op.equalIn (d + 1) t x y).run P w = .ok r w
  | .int, d, t, a, b, r, x, y, _, hc, ha, hb, h => eqInt_run hc d ha hb (by simpa only [eqS] using h)
  | .bool, d, t, a, b, r, x, y, _, hc, ha, hb, h => eqBool_run hc d ha hb (by simpa only [eqS] using h)
  | .str, d, t, a, b, r, x, y, _, hc, ha, hb, h => eqStr_run hc d ha hb (by simpa only [eqS] using h)
  | .ptr, d, t, a, b, r, x, y, _, hc, ha, hb, h => eqPtr_run hc d ha hb (by simpa only [eqS] using h)
  | .slc, d, t, a, b, r, x, y, _, hc, ha, hb, h => eqSlc_run hc d ha hb (by simpa only [eqS] using h)
  | .fnc, d, t, a, b, r, x, y, _, hc, ha, hb, h => eqFnc_run hc d ha hb (by simpa only [eqS] using h)
  | .st ss es, d, t, a, b, r, x, y, hd, hc, ha, hb, h => by
    simp only [chkE] at hc
    split at hc
    · rename_i fs hu
      simp only [Bool.and_eq_true, Bool.not_eq_true'] at hc
      simp only [eqS] at h
      split at h
      · rename_i ss1 xs ss2 ys
        split at h
        · rename_i he
          obtain ⟨rfl, rfl⟩ := he
          obtain ⟨cx, h1, h2⟩ := ha
          obtain ⟨cy, h3, h4⟩ := hb
          rcases h1 with ⟨rfl, _⟩ | ⟨_, h1⟩
          · rcases h3 with ⟨rfl, _⟩ | ⟨_, h3⟩
            · have hf : P.fieldsOf t = fs := by simp [Program.fieldsOf, hu]
              rw [run_equalIn_agg w d t cx cy (by rw [hf]; exact hu) hc.1, hf]
              unfold RC at h2 h4
              refine eqSs_run es _ fs.toList d xs ys r cx cy 0 [] _ [] _ (by simp only [EqSh.deep] at hd; omega) hc.2 (by simp) (by simp) rfl rfl h2 h4 h
            · simp [AV.isAgg] at h3
          · simp [AV.isAgg] at h1
        · cases h
      · cases h
    · cases hc
theorem eqSs_run : ∀ (es : List EqSh) (ss : List Nat) (fs : List Field) (d : Nat) (xs ys : List AV) (r : Bool) (cx cy : Array Value) (off : Nat) (px rx py ry : List Value), EqSh.deeps es < d → chkEs P ss es fs off = true →
    cx.toList = px ++ rx → cy.toList = py ++ ry → px.length = off → py.length = off → RCf num w F β ss xs rx → RCf num w F β ss ys ry → eqSs es xs ys = some r →
    (Op.eqFields d cx cy fs).run P w = .ok r w
  | [], ss, fs, d, xs, ys, r, cx, cy, off, px, rx, py, ry, hd, hc, e1, e2, e3, e4, h1, h2, h => by
    cases ss <;> cases fs <;> simp [chkEs] at hc
    cases xs <;> cases ys <;> simp [eqSs] at h
    subst h
    simp [Op.eqFields]
  | e :: es, ss, fs, d, xs, ys, r, cx, cy, off, px, rx, py, ry, hd, hc, e1, e2, e3, e4, h1, h2, h => by
    cases ss with
    | nil => simp [chkEs] at hc
    | cons n ss =>
    cases fs with
    | nil => simp [chkEs] at hc
    | cons f fs =>
    cases xs with
    | nil => simp [eqSs] at h
    | cons x xs =>
    cases ys with
    | nil => simp [eqSs] at h
    | cons y ys =>
    simp only [chkEs, Bool.and_eq_true, decide_eq_true_eq, bne_iff_ne, ne_eq] at hc
    obtain ⟨⟨⟨⟨hc1, hc2⟩, hc3⟩, hc4⟩, hc5⟩ := hc
    simp only [eqSs] at h
    split at h
    case h_2 => cases h
    rename_i ra rb ha hb
    cases h
    unfold RCf at h1 h2
    obtain ⟨c1, c2, rfl, h3, h4, h5⟩ := h1
    obtain ⟨d1, d2, rfl, h6, h7, h8⟩ := h2
    obtain ⟨ga, gb⟩ := eqS_agg e ha
    obtain ⟨vx, hvx, hx⟩ := part_run (P := P) (w := w) (cs := cx) (pre := px) (post := c2) hc3 h4 (by simp [AV.fits, ← RC_len _ _ h4, h3, ga]) (by simpa using e1)
    obtain ⟨vy, hvy, hy⟩ := part_run (P := P) (w := w) (cs := cy) (pre := py) (post := d2) hc3 h7 (by simp [AV.fits, ← RC_len _ _ h7, h6, gb]) (by simpa using e2)
    obtain ⟨d, rfl⟩ : ∃ d', d = d' + 1 := ⟨d - 1, by omega⟩
    simp only [EqSh.deeps] at hd
    have k1 := eqS_run e d f.type x y ra vx vy (by omega) hc4 hx hy ha
    have k2 := eqSs_run es ss fs (d + 1) xs ys rb cx cy (off + n) (px ++ c1) c2 (py ++ d1) d2 (by omega) hc5 (by simpa using e1) (by simpa using e2) (by simp [e3, h3]) (by simp [e4, h6]) h5 h8 hb
    rw [e3] at hvx
    rw [e4] at hvy
    simp only [Op.eqFields, hc1, ne_eq, not_false_eq_true, if_true, Sem.run_bind, hc2, hvx, hvy, k1, Result.andThen_ok]
    cases ra with
    | true => simpa using k2
    | false => simp
end

/-- The type is compared as e says, and asks for nothing beside. -/
def chkEq (P : Program) (e : EqSh) (t : TypeId) : Bool :=
  chkE P e t && decide (e.deep < 10000) && (match e with
    | .int | .str => false
    | .st .. => !P.eqGuardType P.depth t
    | _ => true)

inductive EqKind : Value → Value → Prop where
  | bool (a b : Bool) : EqKind (.bool a) (.bool b)
  | ptr (a b : Option Addr) : EqKind (.pointer a) (.pointer b)
  | slc (a b : Option Addr) (n c n' c' : Nat) : EqKind (.slice a n c) (.slice b n' c')
  | ff : EqKind .nilFunc .nilFunc
  | fg (f : Fn) (a b : Array Value) : EqKind (.func f a b) .nilFunc
  | gf (f : Fn) (a b : Array Value) : EqKind .nilFunc (.func f a b)
  | agg (a b : Array Value) : EqKind (.agg a) (.agg b)

omit [YI] in
theorem EqKind.run {x y : Value} (h : EqKind x y) (t : TypeId) (x' y' : Operand) (hg : ∀ a b, x = .agg a → y = .agg b → P.eqGuardType P.depth t = false) {q : Bool} (hr : (Op.equalIn 10000 t x y).run P w = .ok q w) (neg : Bool) :
    (do eqGuard (if neg then .neq else .eql) t x' y' x y; binOp (if neg then .neq else .eql) t x y : Sem Value).run P w = .ok (.bool (if neg then !q else q)) w := by
  cases h with
  | agg a b =>
    simp only [Sem.run_bind, run_eqGuard_agg w _ t x' y' a b (hg _ _ rfl rfl), Result.andThen_ok]
    cases neg with
    | false => simp only [Bool.false_eq_true, if_false]; rw [run_eql_struct, hr]; rfl
    | true => simp only [if_true]; rw [run_neq_struct, hr]; rfl
  | _ => cases neg <;> simp [eqGuard, binOp, Op.equal, Op.maxDepth, hr]

omit [YI] in
theorem eqS_kind (e : EqSh) (he : e ≠ .int) (hs : e ≠ .str) {a b : AV} {r : Bool} {x y : Value} (ha : RX num w F β a x) (hb : RX num w F β b y) (h : eqS e a b = some r) : EqKind x y := by
  cases e with
  | int => exact (he rfl).elim
  | str => exact (hs rfl).elim
  | bool =>
    simp only [eqS] at h
    unfold eqBool at h
    split at h
    · have e1 := ha.atom_inv
      have e2 := hb.atom_inv
      subst e1
      subst e2
      exact .bool _ _
    · cases h
  | ptr =>
    simp only [eqS] at h
    unfold eqPtr at h
    split at h
    · rw [ha.atom_inv, hb.atom_inv]; exact .ptr _ _
    · obtain ⟨_, e⟩ := ha.ptr_inv; rw [e, hb.atom_inv]; exact .ptr _ _
    · obtain ⟨_, e⟩ := hb.ptr_inv; rw [e, ha.atom_inv]; exact .ptr _ _
    · obtain ⟨_, e⟩ := ha.cptr_inv; rw [e, hb.atom_inv]; exact .ptr _ _
    · obtain ⟨_, e⟩ := hb.cptr_inv; rw [e, ha.atom_inv]; exact .ptr _ _
    · cases h
  | slc =>
    simp only [eqS] at h
    unfold eqSlc at h
    split at h
    · rw [ha.nil_inv, hb.nil_inv]; exact .slc ..
    · rw [hb.nil_inv]
      rcases ha.own_inv with ⟨_, _, e, _⟩ | ⟨_, _, _, _, e, _⟩ <;> (rw [e]; exact .slc ..)
    · rw [hb.nil_inv]
      rcases ha.sl_inv with ⟨e, _⟩ | ⟨_, _, _, e, _⟩ <;> (rw [e]; exact .slc ..)
    · rw [hb.nil_inv]
      obtain ⟨_, _, e⟩ := ha.e0_inv
      rw [e]; exact .slc ..
    · cases h
  | fnc =>
    simp only [eqS] at h
    unfold eqFnc at h
    split at h
    · rw [ha.atom_inv, hb.atom_inv]; exact .ff
    · obtain ⟨_, e, _⟩ := ha.fn_inv; rw [e, hb.atom_inv]; exact .fg ..
    · obtain ⟨_, e, _⟩ := hb.fn_inv; rw [e, ha.atom_inv]; exact .gf ..
    · cases h
  | st ss es =>
    simp only [eqS] at h
    split at h
    · obtain ⟨cx, h1, _⟩ := ha
      obtain ⟨cy, h2, _⟩ := hb
      rcases h1 with ⟨rfl, _⟩ | ⟨_, h1⟩
      · rcases h2 with ⟨rfl, _⟩ | ⟨_, h2⟩
        · exact .agg _ _
        · simp [AV.isAgg] at h2
      · simp [AV.isAgg] at h1
    · cases h

omit [YI] in
theorem eqtV_run {o : Oper} {act : Act} {e : EqSh} {neg : Bool} {t : TypeId} {x y : Operand} {bo : TypeId} (hop : o.op = .binOp (if neg then .neq else .eql) t x y bo) (hc : chkEq P e t = true) (a b r : AV)
    (ha : RX num w F β a (act.eval x)) (hb : RX num w F β b (act.eval y)) (h : eqtV e neg a b = some r) : ∃ v, (execOp act.eval o).run P w = .ok (.value v) w ∧ RX num w F β r v := by
  unfold eqtV at h
  obtain ⟨q, hq, rfl⟩ := Option.map_eq_some_iff.1 h
  unfold chkEq at hc
  simp only [Bool.and_eq_true, decide_eq_true_eq] at hc
  obtain ⟨⟨hc1, hc2⟩, hc3⟩ := hc
  have hrun := eqS_run (P := P) e 9999 t a b q _ _ (by omega) hc1 ha hb hq
  have hk := eqS_kind e (by rintro rfl; simp at hc3) (by rintro rfl; simp at hc3) ha hb hq
  have hg : ∀ cx cy, act.eval x = .agg cx → act.eval y = .agg cy → P.eqGuardType P.depth t = false := by
    intro cx cy h1 h2
    have g : e.isSt = true := by
      obtain ⟨g1, _⟩ := eqS_agg _ hq
      by_cases hs : e.isSt = true
      · exact hs
      · have g2 : a.isAgg = false := by rw [g1]; simpa using hs
        have g3 : a ≠ .und := by
          rintro rfl
          cases e <;> simp [eqS, eqInt, eqBool, eqStr, eqPtr, eqSlc, eqFnc] at hq
        have g4 : ∀ vs, a ≠ .tup vs := by
          rintro vs rfl
          cases e <;> simp [eqS, eqInt, eqBool, eqStr, eqPtr, eqSlc, eqFnc] at hq
        have := RC_one _ _ (ha.single g3 g4 g2) (act.eval x) (by simp)
        rw [h1] at this
        simp [Value.oneCell'] at this
    cases e <;> simp [EqSh.isSt] at g
    simpa using hc3
  have := hk.run (w := w) t x y hg hrun neg
  refine ⟨_, ?_, RX.of_atom rfl⟩
  simp only [execOp, hop]
  rw [Sem.run_bind, this]
  rfl
end
end Go.Fw
