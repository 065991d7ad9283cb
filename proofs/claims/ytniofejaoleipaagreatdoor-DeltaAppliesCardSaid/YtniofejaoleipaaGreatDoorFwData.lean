import Derived.Test.YtniofejaoleipaaGreatDoorFwSimp
/-
  The program's data as Lean data.
-/
namespace Go.Fw

structure Per where
  lo : Int
  hi : Int
  deriving DecidableEq
structure Val where
  kind : Int
  int : Int
  text : ByteArray
  deriving DecidableEq
structure Fact where
  row : List Val
  valid : Per
  deriving DecidableEq
structure Ver where
  id : Int
  schema : Int
  row : List Val
  valid : Per
  system : Per
  by' : Int
  til : Int
  deriving DecidableEq

def Per.a (p : Per) : AV := .agg [1, 1] [.i p.lo, .i p.hi]
def Val.a (v : Val) : AV := .agg [1, 1, 1] [.i v.kind, .i v.int, .str v.text]
def rowA (r : List Val) : AV := .sl 3 (r.map Val.a)
def Fact.a (f : Fact) : AV := .agg [1, 2] [rowA f.row, f.valid.a]
def Ver.a (v : Ver) : AV := .agg [1, 1, 1, 2, 2, 1, 1] [.i v.id, .i v.schema, rowA v.row, v.valid.a, v.system.a, .i v.by', .i v.til]

@[simp] theorem Per.a_size (p : Per) : p.a.size = 2 := rfl
@[simp] theorem Val.a_size (p : Val) : p.a.size = 3 := rfl
@[simp] theorem rowA_size (p : List Val) : (rowA p).size = 1 := rfl
@[simp] theorem Fact.a_size (p : Fact) : p.a.size = 3 := rfl
@[simp] theorem Ver.a_size (p : Ver) : p.a.size = 9 := rfl
@[simp] theorem Per.a_agg (p : Per) : p.a.isAgg = true := rfl
@[simp] theorem Val.a_agg (p : Val) : p.a.isAgg = true := rfl
@[simp] theorem rowA_agg (p : List Val) : (rowA p).isAgg = false := rfl
@[simp] theorem Fact.a_agg (p : Fact) : p.a.isAgg = true := rfl
@[simp] theorem Ver.a_agg (p : Ver) : p.a.isAgg = true := rfl

theorem pureBs_map {α : Type} (f : α → AV) (h : ∀ x, (f x).pureB = true) : ∀ l : List α, AV.pureBs (l.map f) = true
  | [] => rfl
  | x :: l => by simp only [List.map_cons, AV.pureBs, h, pureBs_map f h l, Bool.and_self]
@[simp] theorem Per.a_pure (p : Per) : p.a.pureB = true := rfl
@[simp] theorem Val.a_pure (p : Val) : p.a.pureB = true := rfl
@[simp] theorem rowA_pure (p : List Val) : (rowA p).pureB = true := by unfold rowA AV.pureB; exact pureBs_map _ Val.a_pure p
@[simp] theorem Fact.a_pure (p : Fact) : p.a.pureB = true := by simp [Fact.a]
@[simp] theorem Ver.a_pure (p : Ver) : p.a.pureB = true := by simp [Ver.a]

/-- A frozen slice of data. -/
def slA {α : Type} (k : Nat) (f : α → AV) (l : List α) : AV := .sl k (l.map f)
@[simp] theorem slA_size {α : Type} (k : Nat) (f : α → AV) (l : List α) : (slA k f l).size = 1 := rfl
@[simp] theorem slA_agg {α : Type} (k : Nat) (f : α → AV) (l : List α) : (slA k f l).isAgg = false := rfl
theorem slA_pure {α : Type} (k : Nat) (f : α → AV) (h : ∀ x, (f x).pureB = true) (l : List α) : (slA k f l).pureB = true := by unfold slA AV.pureB; exact pureBs_map f h l
@[simp] theorem slA_len {α : Type} (k : Nat) (f : α → AV) (l : List α) : lenV false (slA k f l) = some (.i l.length) := by simp [slA]
@[simp] theorem rowA_len (l : List Val) : lenV false (rowA l) = some (.i l.length) := by simp [rowA]
theorem slA_get {α : Type} (k : Nat) (f : α → AV) (l : List α) (ik : IntKind) (n : Nat) (x : α) (h : l[n]? = some x) : iaddrV k (slA k f l) (.v (.int ik (n : Int))) = some (.cptr (f x)) := by
  have hlt := (List.getElem?_eq_some_iff.1 h).1
  have h1 : ((n : Int) < (l.length : Int)) := by omega
  simp [slA, iaddrV, AV.ix, h, h1]
theorem rowA_get (l : List Val) (ik : IntKind) (n : Nat) (x : Val) (h : l[n]? = some x) : iaddrV 3 (rowA l) (.v (.int ik (n : Int))) = some (.cptr x.a) := slA_get 3 Val.a l ik n x h

theorem wrap_small {n : Int} (h0 : -9223372036854775808 ≤ n) (h1 : n < 9223372036854775808) : IntKind.i64.wrap n = n := by
  have : IntKind.i64.wrap n = (n + 9223372036854775808) % 18446744073709551616 - 9223372036854775808 := by
    simp [IntKind.wrap, IntKind.bits, IntKind.signed]
    omega
  rw [this]; omega

theorem retZ_pure {T : Nat → Option ADef} (hT : ExtOk T) {f : Nat} {fn : AFun} {args : List AV} {b : AV} {ks : List Nat} (hf : T f = some (.code fn)) (hn : args.length = fn.np) (h0 : argsB [] 1 args = true)
    (h : wpU T fn.body ⟨envOf 0 args, [], 1⟩ (retK fn fun a o _ => frozen o ks a = some b)) : retZ T f args [] ks = some b := retZ_of hT hf hn h0 h
end Go.Fw
