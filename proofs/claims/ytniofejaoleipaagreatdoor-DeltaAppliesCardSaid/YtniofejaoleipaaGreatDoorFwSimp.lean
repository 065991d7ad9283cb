import Derived.Test.YtniofejaoleipaaGreatDoorFwU
/-
  The form for use: what its operations come to, for simp.
-/
namespace Go.Fw

attribute [simp] sumN offN lk up rm rmAll kp memN putE wrO wrsO dyn AV.pureB AV.pureBs argsB Wr.key keysOf
attribute [simp] eqS eqSs normAll disj

@[simp] theorem size_v (x : Value) : AV.size (.v x) = 1 := rfl
@[simp] theorem isAgg_v (x : Value) : AV.isAgg (.v x) = false := rfl
@[simp] theorem size_agg (ss : List Nat) (fs : List AV) : AV.size (.agg ss fs) = sumN ss := rfl
@[simp] theorem isAgg_agg (ss : List Nat) (fs : List AV) : AV.isAgg (.agg ss fs) = true := rfl
@[simp] theorem size_sl (k : Nat) (xs : List AV) : AV.size (.sl k xs) = 1 := rfl
@[simp] theorem isAgg_sl (k : Nat) (xs : List AV) : AV.isAgg (.sl k xs) = false := rfl
@[simp] theorem size_fn (f : Nat) (c : List AV) : AV.size (.fn f c) = 1 := rfl
@[simp] theorem isAgg_fn (f : Nat) (c : List AV) : AV.isAgg (.fn f c) = false := rfl
@[simp] theorem size_cptr (x : AV) : AV.size (.cptr x) = 1 := rfl
@[simp] theorem isAgg_cptr (x : AV) : AV.isAgg (.cptr x) = false := rfl
@[simp] theorem size_ptr (p g : Nat) (l : List Nat) (o : Nat) : AV.size (.ptr p g l o) = 1 := rfl
@[simp] theorem isAgg_ptr (p g : Nat) (l : List Nat) (o : Nat) : AV.isAgg (.ptr p g l o) = false := rfl
@[simp] theorem size_own (p g k o n : Nat) : AV.size (.own p g k o n) = 1 := rfl
@[simp] theorem isAgg_own (p g k o n : Nat) : AV.isAgg (.own p g k o n) = false := rfl
@[simp] theorem size_mp (p g : Nat) : AV.size (.mp p g) = 1 := rfl
@[simp] theorem isAgg_mp (p g : Nat) : AV.isAgg (.mp p g) = false := rfl
@[simp] theorem size_nil  : AV.size (.nil) = 1 := rfl
@[simp] theorem isAgg_nil  : AV.isAgg (.nil) = false := rfl
@[simp] theorem size_e0  : AV.size (.e0) = 1 := rfl
@[simp] theorem isAgg_e0  : AV.isAgg (.e0) = false := rfl
@[simp] theorem keyOf_zero (g : Nat) : keyOf 0 g = dyn g := rfl
@[simp] theorem keyOf_succ (p g : Nat) : keyOf (p + 1) g = p + 1 := rfl
@[simp] theorem lenV_sl (s : Bool) (k : Nat) (xs : List AV) : lenV s (.sl k xs) = if false = s then some (.i xs.length) else none := rfl
@[simp] theorem lenV_own (s : Bool) (p g k o n : Nat) : lenV s (.own p g k o n) = if false = s then some (.i n) else none := rfl
@[simp] theorem lenV_nil (s : Bool) : lenV s .nil = if false = s then some (.i 0) else none := rfl
@[simp] theorem lenV_e0 (s : Bool) : lenV s .e0 = if false = s then some (.i 0) else none := rfl
@[simp] theorem lenV_str (s : Bool) (x : ByteArray) : lenV s (.v (.string x)) = if true = s then some (.i x.size) else none := rfl
@[simp] theorem extrV_tup (vs : List AV) (i : Nat) : extrV (.tup vs) i = vs[i]? := rfl
@[simp] theorem nilchkV_ptr (p g : Nat) (l : List Nat) (o : Nat) : nilchkV (.ptr p g l o) = some (.ptr p g l o) := rfl
@[simp] theorem nilchkV_cptr (x : AV) : nilchkV (.cptr x) = some (.cptr x) := rfl
@[simp] theorem nilchkV_fn (f : Nat) (c : List AV) : nilchkV (.fn f c) = some (.fn f c) := rfl
@[simp] theorem fnV_fn (f : Nat) (c : List AV) : fnV (.fn f c) = some (f, c) := rfl
@[simp] theorem aun_not (b : Bool) : aun .not (.v (.bool b)) = some (.v (.bool (!b))) := rfl
@[simp] theorem aun_neg (k : IntKind) (n : Int) : aun .neg (.v (.int k n)) = some (.v (.int k (k.wrap (0 - n)))) := rfl
@[simp] theorem convV_int (k k' : IntKind) (n : Int) : convV k (.v (.int k' n)) = some (.v (.int k (k.wrap n))) := rfl
@[simp] theorem eqtV_eq (e : EqSh) (neg : Bool) (a b : AV) : eqtV e neg a b = (eqS e a b).map fun t => .v (.bool (if neg then !t else t)) := rfl
@[simp] theorem eqInt_int (j k : IntKind) (a b : Int) : eqInt (.v (.int j a)) (.v (.int k b)) = if j = k then some (a == b) else none := rfl
@[simp] theorem eqBool_bool (a b : Bool) : eqBool (.v (.bool a)) (.v (.bool b)) = some (a == b) := rfl
@[simp] theorem eqStr_str (a b : ByteArray) : eqStr (.v (.string a)) (.v (.string b)) = some (decide (a = b)) := rfl
@[simp] theorem eqSlc_nil : eqSlc .nil .nil = some true := rfl
@[simp] theorem eqSlc_e0 : eqSlc .e0 .nil = some false := rfl
@[simp] theorem eqSlc_own (p g k o n : Nat) : eqSlc (.own p g k o n) .nil = if n = 0 then none else some false := rfl
@[simp] theorem clash_nil (acc : List (Nat × List Nat × List Nat)) (j : Nat) (r w : List Nat) (K : Prop) : clash [] acc j r w K = K := rfl
@[simp] theorem clash_cons (u : Nat × Nat) (us : List (Nat × Nat)) (acc : List (Nat × List Nat × List Nat)) (j : Nat) (r w : List Nat) (K : Prop) : clash (u :: us) acc j r w K = (clashFree (u :: us) acc j r w = true ∧ K) := rfl
@[simp] theorem logIf_nil (j : Nat) (acc : List (Nat × List Nat × List Nat)) (r w : List Nat) : logIf [] j r w acc = [] := rfl
@[simp] theorem logIf_none (u : Nat × Nat) (us : List (Nat × Nat)) (j : Nat) (acc : List (Nat × List Nat × List Nat)) : logIf (u :: us) j [] [] acc = acc := rfl
@[simp] theorem logIf_r (u : Nat × Nat) (us : List (Nat × Nat)) (j : Nat) (acc : List (Nat × List Nat × List Nat)) (a : Nat) (r w : List Nat) : logIf (u :: us) j (a :: r) w acc = (j, a :: r, w) :: acc := rfl
@[simp] theorem logIf_w (u : Nat × Nat) (us : List (Nat × Nat)) (j : Nat) (acc : List (Nat × List Nat × List Nat)) (a : Nat) (w : List Nat) : logIf (u :: us) j [] (a :: w) acc = (j, [], a :: w) :: acc := rfl
@[simp] theorem clashFree_nil (un : List (Nat × Nat)) (j : Nat) (r w : List Nat) : clashFree un [] j r w = true := rfl
@[simp] theorem clashFree_cons (un : List (Nat × Nat)) (i : Nat) (r' w' : List Nat) (acc : List (Nat × List Nat × List Nat)) (j : Nat) (r w : List Nat) : clashFree un ((i, r', w') :: acc) j r w = ((!(un.any fun x => x.1 == i && x.2 == j) || (disj w' (r ++ w) && disj w r')) && clashFree un acc j r w) := rfl

section
variable {ob : Ob}
@[simp] theorem fits_eq (a : AV) (n : Nat) (ag : Bool) : a.fits n ag = (decide (a.size = n) && (a.isAgg == ag)) := rfl

@[simp] theorem faddrV_cptr (ss ss' : List Nat) (i : Nat) (fs : List AV) : faddrV ss i (.cptr (.agg ss' fs)) = if ss' = ss then fs[i]?.map .cptr else none := rfl
@[simp] theorem faddrV_ptr (ss : List Nat) (i p g : Nat) (path : List Nat) (off : Nat) : faddrV ss i (.ptr p g path off) = some (.ptr p g (path ++ [i]) (off + offN ss i)) := rfl
@[simp] theorem fldV_agg (ss ss' : List Nat) (i : Nat) (ag : Bool) (fs : List AV) : fldV ss i ag (.agg ss' fs) = if ss' = ss then fs[i]?.bind fun b => if b.isAgg = ag then some b else none else none := rfl
@[simp] theorem loadV_cptr (n : Nat) (ag : Bool) (y : AV) : (loadV n ag (.cptr y)).run ob = if y.fits n ag = true then some y else none := by
  show (if y.fits n ag = true then MO.ret y else .fail).run ob = _
  split <;> rfl
@[simp] theorem loadV_cptr_seen (n : Nat) (ag : Bool) (y : AV) : (loadV n ag (.cptr y)).seen ob = [] := by
  show (if y.fits n ag = true then MO.ret y else .fail).seen ob = _
  split <;> rfl
@[simp] theorem loadV_ptr (n : Nat) (ag : Bool) (p g : Nat) (path : List Nat) (off : Nat) : (loadV n ag (.ptr p g path off)).run ob = (match lk ob p with
    | some (g', o) => if g = g' then (o.at path).bind fun q => if q.1 = off ∧ q.2.fits n ag = true then some q.2 else none else none
    | none => none) := by
  unfold loadV
  simp only [MO.run]
  cases lk ob p with
  | none => rfl
  | some x =>
    obtain ⟨g', o⟩ := x
    dsimp only
    split
    · cases o.at path with
      | none => rfl
      | some q => simp only [opt_some, Option.bind_some]; split <;> rfl
    · rfl
@[simp] theorem loadV_ptr_seen (n : Nat) (ag : Bool) (p g : Nat) (path : List Nat) (off : Nat) : (loadV n ag (.ptr p g path off)).seen ob = [p] := by
  unfold loadV
  simp only [MO.seen]
  cases lk ob p with
  | none => rfl
  | some x =>
    obtain ⟨g', o⟩ := x
    dsimp only
    split
    · cases o.at path with
      | none => rfl
      | some q => simp only [opt_some]; split <;> rfl
    · rfl
@[simp] theorem newV_run_eq (p g : Nat) (r : AV) (x : AObj) : (newV p g r x).run ob = match lk ob p with | some _ => none | none => some (r, [.o p g x]) := by
  unfold newV; simp only [MO.run]
  cases lk ob p <;> rfl
@[simp] theorem newV_seen_eq (p g : Nat) (r : AV) (x : AObj) : (newV p g r x).seen ob = [p] := rfl
@[simp] theorem storeV_ptr (n p g : Nat) (path : List Nat) (off : Nat) (b : AV) : (storeV n (.ptr p g path off) b).run ob = if b.size = n then (match lk ob p with
    | some (g', o) => if g = g' then (o.setAt path b).bind fun q => if q.1 = off then some (.und, [.o p g q.2]) else none else none
    | none => none) else none := by
  show (if b.size = n then MO.get p g fun o => opt (o.setAt path b) fun q => if q.1 = off then (.ret (AV.und, [Wr.o p g q.2]) : MO (AV × List Wr)) else .fail else .fail).run ob = _
  by_cases h : b.size = n
  · rw [if_pos h, if_pos h]
    simp only [MO.run]
    cases lk ob p with
    | none => rfl
    | some x =>
      obtain ⟨g', o⟩ := x
      dsimp only
      split
      · cases o.setAt path b with
        | none => rfl
        | some q => simp only [opt_some, Option.bind_some]; split <;> rfl
      · rfl
  · rw [if_neg h, if_neg h]; rfl
@[simp] theorem finV_ptr (n p g off : Nat) (b : AV) : (finV n (.ptr p g [] off) b).run ob = (match lk ob p with
    | some (g', .bx x) => if g = g' ∧ off = 0 ∧ b.size = n ∧ b.size = x.size then some (.cptr b, [.del p]) else none
    | _ => none) := by
  unfold finV
  simp only [MO.run]
  cases lk ob p with
  | none => rfl
  | some x =>
    obtain ⟨g', o⟩ := x
    dsimp only
    split
    · rename_i hg
      cases o <;> try rfl
      simp only [hg, true_and]
      split <;> rfl
    · rename_i hg
      cases o <;> try rfl
      simp only [hg, false_and, if_false]
@[simp] theorem at_bx (x : AV) (path : List Nat) : (AObj.bx x).at path = x.at path 0 := by cases path <;> rfl
@[simp] theorem at_nil (a : AV) (n : Nat) : a.at [] n = some (n, a) := by unfold AV.at; rfl
@[simp] theorem at_cons (ss : List Nat) (fs : List AV) (i : Nat) (r : List Nat) (n : Nat) : (AV.agg ss fs).at (i :: r) n = fs[i]?.bind fun x => x.at r (n + offN ss i) := by
  conv => lhs; unfold AV.at
  dsimp only
  cases fs[i]? <;> rfl
@[simp] theorem setAt_bx (x : AV) (path : List Nat) (y : AV) : (AObj.bx x).setAt path y = (x.setAt path 0 y).map fun p => (p.1, .bx p.2) := by cases path <;> rfl
@[simp] theorem setAt_nil (a : AV) (n : Nat) (y : AV) : a.setAt [] n y = if y.size = a.size then some (n, y) else none := by unfold AV.setAt; rfl
@[simp] theorem setAt_cons (ss : List Nat) (fs : List AV) (i : Nat) (r : List Nat) (n : Nat) (y : AV) : (AV.agg ss fs).setAt (i :: r) n y = fs[i]?.bind fun x => (x.setAt r (n + offN ss i) y).map fun p => (p.1, .agg ss (fs.set i p.2)) := by
  conv => lhs; unfold AV.setAt
  dsimp only
  cases fs[i]? with
  | none => rfl
  | some x =>
    dsimp only [Option.bind_some]
    cases x.setAt r (n + offN ss i) y <;> rfl

@[simp] theorem abin_add (k k' : IntKind) (x y : Int) : abin .add (.v (.int k x)) (.v (.int k' y)) = if k = k' then some (.v (.int k (k.wrap (x + y)))) else none := rfl
@[simp] theorem abin_sub (k k' : IntKind) (x y : Int) : abin .sub (.v (.int k x)) (.v (.int k' y)) = if k = k' then some (.v (.int k (k.wrap (x - y)))) else none := rfl
@[simp] theorem abin_mul (k k' : IntKind) (x y : Int) : abin .mul (.v (.int k x)) (.v (.int k' y)) = if k = k' then some (.v (.int k (k.wrap (x * y)))) else none := rfl
@[simp] theorem abin_lss (k k' : IntKind) (x y : Int) : abin .lss (.v (.int k x)) (.v (.int k' y)) = if k = k' then some (.b (decide (x < y))) else none := rfl
@[simp] theorem abin_leq (k k' : IntKind) (x y : Int) : abin .leq (.v (.int k x)) (.v (.int k' y)) = if k = k' then some (.b (decide (x ≤ y))) else none := rfl
@[simp] theorem abin_gtr (k k' : IntKind) (x y : Int) : abin .gtr (.v (.int k x)) (.v (.int k' y)) = if k = k' then some (.b (decide (x > y))) else none := rfl
@[simp] theorem abin_geq (k k' : IntKind) (x y : Int) : abin .geq (.v (.int k x)) (.v (.int k' y)) = if k = k' then some (.b (decide (x ≥ y))) else none := rfl
@[simp] theorem abin_eql (k k' : IntKind) (x y : Int) : abin .eql (.v (.int k x)) (.v (.int k' y)) = if k = k' then some (.b (x == y)) else none := rfl
@[simp] theorem abin_neq (k k' : IntKind) (x y : Int) : abin .neq (.v (.int k x)) (.v (.int k' y)) = if k = k' then some (.b (x != y)) else none := rfl
@[simp] theorem abin_eqls (x y : ByteArray) : abin .eql (.v (.string x)) (.v (.string y)) = some (.b (decide (x = y))) := rfl
@[simp] theorem abin_lsss (x y : ByteArray) : abin .lss (.v (.string x)) (.v (.string y)) = some (.b (Op.bytesLess x.data.toList y.data.toList)) := rfl
@[simp] theorem abin_gtrs (x y : ByteArray) : abin .gtr (.v (.string x)) (.v (.string y)) = some (.b (!(Op.bytesLess x.data.toList y.data.toList || decide (x = y)))) := rfl
@[simp] theorem abin_neqs (x y : ByteArray) : abin .neq (.v (.string x)) (.v (.string y)) = some (.b (!decide (x = y))) := rfl

@[simp] theorem condV_b (t : Bool) (A B : Prop) : condV (.v (.bool t)) A B = if t = true then A else B := rfl
@[simp] theorem gdV_b (t want : Bool) (A B C : Prop) : gdV (.v (.bool t)) want A B C = if t = want then A else B := rfl
@[simp] theorem bnd_app {α : Sort _} (x : α) (k : α → Prop) : bnd x k = k x := rfl
@[simp] theorem boxed_app (p : Prop) : Boxed p = p := boxed_eq p
@[simp] theorem bindE_app {α : Type} (o : Option α) (k : α → Prop) : bindE o k = bindO o k := bindE_eq o k
def andG (v w : AV) (G : AV → Prop) : Prop := gdV v true (G w) (G (.v (.bool false))) False
def orG (v w : AV) (G : AV → Prop) : Prop := gdV v false (G w) (G (.v (.bool true))) False
@[simp] theorem andA_b (v w : AV) (acc acc' : Acc) (G : AV → Prop) : andA v acc (fun k => k w acc') (fun y _ => G y) = andG v w G := rfl
@[simp] theorem orA_b (v w : AV) (acc acc' : Acc) (G : AV → Prop) : orA v acc (fun k => k w acc') (fun y _ => G y) = orG v w G := rfl
@[simp] theorem andG_b (p q : Bool) (G : AV → Prop) : andG (.v (.bool p)) (.v (.bool q)) G = G (.v (.bool (p && q))) := by
  cases p <;> rfl
@[simp] theorem orG_b (p q : Bool) (G : AV → Prop) : orG (.v (.bool p)) (.v (.bool q)) G = G (.v (.bool (p || q))) := by
  cases p <;> rfl
@[simp] theorem seqK_nrm (K : St → Prop) (Q : Ex → St → Prop) (s : St) : seqK K Q .nrm s = K s := rfl
@[simp] theorem seqK_ret (K : St → Prop) (Q : Ex → St → Prop) (s : St) : seqK K Q .ret s = Q .ret s := rfl
@[simp] theorem seqK_exit (K : St → Prop) (Q : Ex → St → Prop) (n : Nat) (s : St) : seqK K Q (.exit n) s = Q (.exit n) s := rfl
@[simp] theorem blkK_nrm (i : Nat) (Q : Ex → St → Prop) (s : St) : blkK i Q .nrm s = Q .nrm s := rfl
@[simp] theorem blkK_ret (i : Nat) (Q : Ex → St → Prop) (s : St) : blkK i Q .ret s = Q .ret s := rfl
@[simp] theorem blkK_exit (i n : Nat) (Q : Ex → St → Prop) (s : St) : blkK i Q (.exit n) s = if n = i then Q .nrm s else Q (.exit n) s := rfl
@[simp] theorem loopK_nrm {T : Nat → Option ADef} (c : ACode) (Q : Ex → St → Prop) (s : St) : loopK T c Q .nrm s = Holds T (.loop c s Q) := rfl
@[simp] theorem loopK_ret {T : Nat → Option ADef} (c : ACode) (Q : Ex → St → Prop) (s : St) : loopK T c Q .ret s = Q .ret s := rfl
@[simp] theorem loopK_exit {T : Nat → Option ADef} (c : ACode) (Q : Ex → St → Prop) (n : Nat) (s : St) : loopK T c Q (.exit n) s = Q (.exit n) s := rfl
@[simp] theorem retK_nrm (fn : AFun) (R : AV → Ob → Nat → Prop) (s : St) : retK fn R .nrm s = bindO (fn.result s) fun a => R a s.ob s.tk := rfl
@[simp] theorem retK_ret (fn : AFun) (R : AV → Ob → Nat → Prop) (s : St) : retK fn R .ret s = bindO (fn.result s) fun a => R a s.ob s.tk := rfl
@[simp] theorem wpU_sub {T : Nat → Option ADef} (c : ACode) (st : St) (Q : Ex → St → Prop) : wpU T (.sub c) st Q = wpU T c st Q := boxed_eq _

theorem frozen_pure {ks : List Nat} {a : AV} (h : a.pureB = true) (ht : ∀ as, a ≠ .tup as) (hn : a.norm (ks.headD 0) = a) : frozen ob ks a = some a := by
  unfold frozen
  split
  · rename_i as; exact (ht as rfl).elim
  · rw [hn, AV.res_eq, if_pos h]
@[simp] theorem frozen_v (ks : List Nat) (x : Value) : frozen ob ks (.v x) = some (.v x) := by rfl
end
end Go.Fw
