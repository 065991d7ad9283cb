import Derived.Test.YtniofejaoleipaaGreatDoorDelA
import Derived.Test.YtniofejaoleipaaGreatDoorDelE
import Derived.Test.YtniofejaoleipaaGreatDoorFwData
import Derived.Test.YtniofejaoleipaaGreatDoorFwOut
/-
  What the reference's functions on periods, values and rows yield.
-/
namespace Go.Fw

def Per.ok (p : Per) : Bool := decide (p.lo ≥ 0) && decide (p.lo < p.hi) && decide (p.hi ≤ 1099511627776)
theorem u_Valid (p : Per) : retZ TT 52 [p.a] [] [0] = some (.b p.ok) := by
  refine retZ_of extOk (fn := c_ref01_Valid) (by kernel_rfl) rfl (by simp [Per.a]) ?_
  show wpU TT c_ref01_Valid_B ⟨[(0, p.a)], [], 1⟩ _
  rw [c_ref01_Valid_B_eq]
  simp [Per.a, Per.ok, AFun.result, c_ref01_Valid, rvAll, RV.ev]

def Per.meet (a b : Per) : Bool := a.ok && b.ok && decide (a.lo < b.hi) && decide (b.lo < a.hi)
theorem u_Overlaps (a b : Per) : retZ TT 44 [a.a, b.a] [] [0] = some (.b (a.meet b)) := by
  refine retZ_of extOk (fn := c_ref01_Overlaps) (by kernel_rfl) rfl (by simp) ?_
  show wpU TT c_ref01_Overlaps_B ⟨[(0, a.a), (1, b.a)], [], 1⟩ _
  rw [c_ref01_Overlaps_B_eq]
  simp [u_Valid, c_ref01_Overlaps_R0_eq]
  simp [Per.a, Per.meet, AFun.result, c_ref01_Overlaps, rvAll, RV.ev]

def signI (l g : Bool) : Int := if l then -1 else if g then 1 else 0
theorem u_sign (l g : Bool) : retZ TT 79 [.b l, .b g] [] [0] = some (.i (signI l g)) := by
  refine retZ_of extOk (fn := c_ref07_sign) (by kernel_rfl) rfl (by simp) ?_
  show wpU TT c_ref07_sign_B ⟨[(0, .b l), (1, .b g)], [], 1⟩ _
  rw [c_ref07_sign_B_eq]
  cases l <;> cases g <;> simp [signI, AFun.result, c_ref07_sign, rvAll, RV.ev]

def valCmp (a b : Val) : Int :=
  if a.kind = b.kind then
    if a.int = b.int then signI (Op.bytesLess a.text.data.toList b.text.data.toList) (!(Op.bytesLess a.text.data.toList b.text.data.toList || decide (a.text = b.text)))
    else signI (decide (a.int < b.int)) (decide (a.int > b.int))
  else signI (decide (a.kind < b.kind)) (decide (a.kind > b.kind))
theorem u_valCmp (a b : Val) : retZ TT 54 [a.a, b.a] [] [0] = some (.i (valCmp a b)) := by
  refine retZ_of extOk (fn := c_ref07_Compare) (by kernel_rfl) rfl (by simp) ?_
  show wpU TT c_ref07_Compare_B ⟨[(0, a.a), (1, b.a)], [], 1⟩ _
  rw [c_ref07_Compare_B_eq]
  simp [Val.a, u_sign, AFun.result, c_ref07_Compare, rvAll, RV.ev]
  by_cases h1 : a.kind = b.kind
  · by_cases h2 : a.int = b.int
    · simp [h1, h2, valCmp]
    · simp [h1, h2, valCmp]
  · simp [h1, valCmp]
end Go.Fw
/-
  Rows compared.
-/
namespace Go.Fw

theorem less_irrefl : ∀ l : List UInt8, Op.bytesLess l l = false
  | [] => rfl
  | a :: l => by simp [Op.bytesLess, less_irrefl l]
theorem valCmp_self (a : Val) : valCmp a a = 0 := by simp [valCmp, less_irrefl, signI]

def early : List Val → List Val → Option Int
  | a :: r, b :: s => if valCmp a b = 0 then early r s else some (valCmp a b)
  | _, _ => none
def rowCmp (a b : List Val) : Int :=
  match early a b with
  | some c => c
  | none => if a.length < b.length then -1 else if a.length > b.length then 1 else 0
theorem early_self : ∀ a : List Val, early a a = none
  | [] => rfl
  | a :: r => by simp [early, valCmp_self, early_self r]
theorem rowCmp_self (a : List Val) : rowCmp a a = 0 := by simp [rowCmp, early_self]

def earlyK (o : Option Int) (a b : List Val) (Q : Ex → St → Prop) : Prop :=
  match o with
  | some c => Q .ret ⟨[(4, .i c)], [], 1⟩
  | none => Q (.exit 0) ⟨[(0, rowA a), (1, rowA b)], [], 1⟩

theorem l_rowCmp (a b : List Val) (hb : a.length < 4611686018427387904) (Q : Ex → St → Prop) : ∀ (m n : Nat), n + m = a.length → n ≤ b.length → earlyK (early (a.drop n) (b.drop n)) a b Q →
    Holds TT (.loop c_ref08_Compare_L0 ⟨[(0, rowA a), (1, rowA b), (5, .i n)], [], 1⟩ Q)
  | 0, n, hn, hle, h => by
    have hn' : n = a.length := by omega
    subst hn'
    refine loop_step ?_
    rw [c_ref08_Compare_L0_eq]
    simp [early, earlyK] at h ⊢
    exact h
  | m + 1, n, hn, hle, h => by
    have h1 : n < a.length := by omega
    have ea : a[n]? = some a[n] := List.getElem?_eq_getElem h1
    refine loop_step ?_
    rw [c_ref08_Compare_L0_eq]
    by_cases h2 : n < b.length
    · have eb : b[n]? = some b[n] := List.getElem?_eq_getElem h2
      rw [List.drop_eq_getElem_cons h1, List.drop_eq_getElem_cons h2] at h
      simp [rowA_get a .i64 n _ ea, rowA_get b .i64 n _ eb, u_valCmp, h1, h2]
      by_cases hz : valCmp a[n] b[n] = 0
      · simp [hz, inc_nat (n := n) (by omega)]
        simp only [early, hz, if_true] at h
        exact l_rowCmp a b hb Q m (n + 1) (by omega) (by omega) h
      · simp [hz]
        simp only [early, hz, if_false, earlyK] at h
        exact h
    · have hn' : n = b.length := by omega
      subst hn'
      simp [h1]
      have : early (a.drop b.length) (b.drop b.length) = none := by
        rw [List.drop_length]
        cases a.drop b.length <;> rfl
      rw [this] at h
      exact h

theorem u_rowCmp (a b : List Val) (hb : a.length < 4611686018427387904) : retZ TT 28 [rowA a, rowA b] [] [0] = some (.i (rowCmp a b)) := by
  refine retZ_of extOk (fn := c_ref08_Compare) (by kernel_rfl) rfl (by simp) ?_
  show wpU TT c_ref08_Compare_B ⟨[(0, rowA a), (1, rowA b)], [], 1⟩ _
  rw [c_ref08_Compare_B_eq]
  refine l_rowCmp a b hb _ a.length 0 (by omega) (Nat.zero_le _) ?_
  simp only [List.drop_zero]
  unfold earlyK rowCmp
  cases early a b with
  | some c => simp [blkK, seqK, AFun.result, c_ref08_Compare, rvAll, RV.ev, retK]
  | none =>
    simp [blkK, seqK, wpU, boxed_eq, c_ref08_Compare_R0_eq]
    by_cases h1 : a.length < b.length
    · simp [h1, AFun.result, c_ref08_Compare, rvAll, RV.ev, retK]
    · by_cases h2 : b.length < a.length
      · simp [h1, h2, AFun.result, c_ref08_Compare, rvAll, RV.ev, retK]
      · simp [h1, h2, AFun.result, c_ref08_Compare, rvAll, RV.ev, retK]
end Go.Fw
/-
  few: what it yields.
-/
namespace Go.Fw

def Ver.fact (v : Ver) : Fact := ⟨v.row, v.valid⟩
def versA (l : List Ver) : AV := slA 9 Ver.a l
def factsA (l : List Fact) : AV := slA 3 Fact.a l
@[simp] theorem versA_pure (l : List Ver) : (versA l).pureB = true := slA_pure _ _ Ver.a_pure l
@[simp] theorem factsA_pure (l : List Fact) : (factsA l).pureB = true := slA_pure _ _ Fact.a_pure l
@[simp] theorem versA_len (l : List Ver) : lenV false (versA l) = some (.i l.length) := slA_len ..
@[simp] theorem factsA_len (l : List Fact) : lenV false (factsA l) = some (.i l.length) := slA_len ..
theorem versA_get (l : List Ver) (n : Nat) (x : Ver) (h : l[n]? = some x) : iaddrV 9 (versA l) (.v (.int .i64 (n : Int))) = some (.cptr x.a) := slA_get 9 Ver.a l .i64 n x h
theorem factsA_get (l : List Fact) (n : Nat) (x : Fact) (h : l[n]? = some x) : iaddrV 3 (factsA l) (.v (.int .i64 (n : Int))) = some (.cptr x.a) := slA_get 3 Fact.a l .i64 n x h

theorem l_Facts28 (l : List Ver) (hb : l.length ≤ 3518437208883) : ∀ (m n tk g : Nat), n + m = l.length →
    Outs (fun Q => Holds TT (.loop c_ref28_Facts_L0 ⟨[(0, versA l), (3, .own 3401 g 3 0 n), (4, .i n)], [(3401, g, .arr 3 ((l.map fun v => v.fact.a).take n))], tk⟩ Q))
      (fun e s => e = .exit 0 ∧ ∃ g, s.env = [(3, .own 3401 g 3 0 l.length)] ∧ s.ob = [(3401, g, .arr 3 (l.map fun v => v.fact.a))])
  | 0, n, tk, g, hn => by
    have hn' : n = l.length := by omega
    subst hn'
    refine outs_loop ?_
    simp only [c_ref28_Facts_L0_eq]
    simp [loopK]
    exact outs_q ⟨rfl, g, rfl, by rw [← List.length_map (fun v : Ver => v.fact.a), List.take_length]⟩
  | m + 1, n, tk, g, hn => by
    have h1 : n < l.length := by omega
    have e1 : l[n]? = some l[n] := List.getElem?_eq_getElem h1
    have ha := run_app_own (p := 3401) (k := 3) (lim := 3518437208883) (g := tk + 13) (q := 3401) (g' := g) (n := n) (ob := [(3401, g, .arr 3 ((l.map fun v => v.fact.a).take n))]) (ys := [l[n].fact.a]) rfl (by simp; omega) (by simp; omega)
    refine outs_loop ?_
    simp only [c_ref28_Facts_L0_eq]
    simp [h1, versA_get l n _ e1, Ver.a, buildV, fillV, bslV, inc_nat (n := n) (by omega)]
    have hfa : AV.agg [1, 2] [rowA l[n].row, l[n].valid.a] = l[n].fact.a := rfl
    have hw : ((l.map fun v => v.fact.a).take n).take n ++ [l[n].fact.a] = (l.map fun v => v.fact.a).take (n + 1) := by
      rw [List.take_take, Nat.min_self]
      exact take_map_succ (fun v : Ver => v.fact.a) l n _ e1
    rw [hw] at ha
    simp only [hfa, ha, bindO_some]
    exact l_Facts28 l hb m (n + 1) _ _ (by omega)

theorem u_Facts28 (l : List Ver) (hb : l.length ≤ 3518437208883) : retZ TT 34 [versA l] [] [3] = some (factsA (l.map Ver.fact)) := by
  obtain ⟨b, rfl, h⟩ := outs_call (T := TT) extOk (f := 34) (fn := c_ref28_Facts) (args := [versA l]) (ob := []) (ks := [3]) (P := fun b => b = factsA (l.map Ver.fact)) (by kernel_rfl) rfl (by simp) (by
    show Outs (fun Q => wpU TT c_ref28_Facts_B ⟨[(0, versA l)], [], 1⟩ Q) _
    simp only [c_ref28_Facts_B_eq]
    simp [newV, MO.run]
    refine outs_bind (l_Facts28 l hb l.length 0 2 1 (by omega)) ?_
    rintro e s ⟨rfl, g, h1, h2⟩
    obtain ⟨env, ob, tk⟩ := s
    simp only at h1 h2
    subst h1 h2
    simp [blkK, seqK, wpU, boxed_eq, c_ref28_Facts_R0_eq]
    refine outs_q ⟨.inr rfl, _, _, rfl, ?_, rfl⟩
    exact (frozen_own (xs := l.map fun v => v.fact.a) rfl (by simp) (pureBs_map _ (fun v => Fact.a_pure _) l)).trans (by simp [factsA, slA, Function.comp_def]))
  exact h

theorem l_Few (l : List Fact) (hl : l.length < 4611686018427387904) : ∀ (m n : Nat), n + m = l.length →
    Outs (fun Q => Holds TT (.loop c_ref22_Few_L0 ⟨[(0, factsA l), (5, .i n)], [], 1⟩ Q)) (fun e s => (e = .exit 0 ∧ s = ⟨[], [], 1⟩ ∧ ∀ f ∈ l.drop n, f.row.length ≤ 60) ∨ (e = .ret ∧ s = ⟨[(4, .b false)], [], 1⟩))
  | 0, n, hn => by
    have hn' : n = l.length := by omega
    subst hn'
    refine outs_loop ?_
    simp only [c_ref22_Few_L0_eq]
    simp
    exact outs_q (.inl ⟨rfl, rfl⟩)
  | m + 1, n, hn => by
    have h1 : n < l.length := by omega
    have e1 : l[n]? = some l[n] := List.getElem?_eq_getElem h1
    refine outs_loop ?_
    simp only [c_ref22_Few_L0_eq]
    simp [h1, factsA_get l n _ e1, Fact.a]
    by_cases h2 : l[n].row.length ≤ 60
    · have h3 : ¬ 60 < l[n].row.length := by omega
      have h4 : ¬ ((60 : Int) < (l[n].row.length : Int)) := by omega
      simp [h3, h4, inc_nat (n := n) (by omega)]
      refine outs_mono (l_Few l hl m (n + 1) (by omega)) ?_
      rintro e s (⟨rfl, rfl, h5⟩ | ⟨rfl, rfl⟩)
      · refine .inl ⟨rfl, rfl, ?_⟩
        rw [List.drop_eq_getElem_cons h1]
        intro f hf
        rcases List.mem_cons.1 hf with rfl | hf
        · exact h2
        · exact h5 f hf
      · exact .inr ⟨rfl, rfl⟩
    · have h3 : 60 < l[n].row.length := by omega
      have h4 : ((60 : Int) < (l[n].row.length : Int)) := by omega
      simp [h3, h4]
      exact outs_q (.inr ⟨rfl, rfl⟩)

def FewP (l : List Fact) (k : Int) (b : AV) : Prop := ∃ t, b = .b t ∧ (t = true → (l.length : Int) ≤ k ∧ ∀ f ∈ l, f.row.length ≤ 60)
theorem u_Few (l : List Fact) (hl : l.length < 4611686018427387904) (k : Int) : ∃ b, retZ TT 12 [factsA l, .i k] [] [0] = some (.b b) ∧ (b = true → (l.length : Int) ≤ k ∧ ∀ f ∈ l, f.row.length ≤ 60) := by
  obtain ⟨b, ⟨t, rfl, h1⟩, h⟩ := outs_call (T := TT) extOk (f := 12) (fn := c_ref22_Few) (args := [factsA l, .i k]) (ob := []) (ks := [0])
    (P := FewP l k) (by kernel_rfl) rfl (by simp) (by
    show Outs (fun Q => wpU TT c_ref22_Few_B ⟨[(0, factsA l), (1, .i k)], [], 1⟩ Q) _
    simp only [c_ref22_Few_B_eq]
    simp
    refine outs_ite (fun h => outs_q ⟨.inr rfl, _, _, rfl, rfl, false, rfl, by simp⟩) (fun h => ?_)
    refine outs_bind (l_Few l hl l.length 0 (by omega)) ?_
    rintro e s (⟨rfl, rfl, h5⟩ | ⟨rfl, rfl⟩)
    · simp [c_ref22_Few_R0_eq]
      refine outs_q ⟨.inr rfl, _, _, rfl, rfl, true, rfl, fun _ => ⟨by omega, h5⟩⟩
    · simp
      exact outs_q ⟨.inr rfl, _, _, rfl, rfl, false, rfl, by simp⟩)
  exact ⟨t, h, h1⟩

/-- few. -/
theorem u_few (l : List Ver) (hb : l.length ≤ 3518437208883) : ∃ b, retZ TT 4 [versA l] [] [0] = some (.b b) ∧ (b = true → l.length ≤ 16 ∧ ∀ v ∈ l, v.row.length ≤ 60) := by
  obtain ⟨t, ht, h1⟩ := u_Few (l.map Ver.fact) (by simp; omega) 16
  refine ⟨t, ?_, fun h => ?_⟩
  · refine retZ_of extOk (fn := c_law32_few) (by kernel_rfl) rfl (by simp) ?_
    show wpU TT c_law32_few_B ⟨[(0, versA l)], [], 1⟩ _
    rw [c_law32_few_B_eq]
    simp [u_Facts28 l hb, ht, AFun.result, c_law32_few, rvAll, RV.ev]
  · obtain ⟨h2, h3⟩ := h1 h
    simp at h2
    refine ⟨by omega, fun v hv => h3 v.fact (List.mem_map_of_mem hv)⟩
end Go.Fw
/-
  Check and Single of the reference: they yield.
-/
namespace Go.Fw

def IsB (b : AV) : Prop := ∃ t, b = .b t
def IsI (b : AV) : Prop := ∃ n, b = .i n

theorem u_invalid (v : Ver) : ∃ b, retZ TT 42 [v.a] [] [0] = some (.b b) := by
  obtain ⟨b, ⟨t, rfl⟩, h⟩ := outs_call (T := TT) extOk (f := 42) (fn := c_ref32_invalid) (args := [v.a]) (ob := []) (ks := [0]) (P := IsB) (by kernel_rfl) rfl (by simp) (by
    show Outs (fun Q => wpU TT c_ref32_invalid_B ⟨[(0, v.a)], [], 1⟩ Q) _
    simp only [c_ref32_invalid_B_eq]
    simp [Ver.a, c_ref32_invalid_R3_eq, c_ref32_invalid_R2_eq, c_ref32_invalid_R1_eq, c_ref32_invalid_R0_eq, u_Valid]
    refine outs_ite (fun _ => outs_q ⟨.inr rfl, _, _, rfl, rfl, _, rfl⟩) (fun _ => ?_)
    simp [andA_if, Per.a]
    refine outs_ite (fun _ => outs_q ⟨.inr rfl, _, _, rfl, rfl, _, rfl⟩) (fun _ => ?_)
    refine outs_ite (fun _ => outs_q ⟨.inr rfl, _, _, rfl, rfl, _, rfl⟩) (fun _ => ?_)
    exact outs_q ⟨.inr rfl, _, _, rfl, rfl, _, rfl⟩)
  exact ⟨t, h⟩

theorem u_ahead (u v : Ver) : ∃ b, retZ TT 43 [u.a, v.a] [] [0] = some (.b b) := by
  obtain ⟨b, ⟨t, rfl⟩, h⟩ := outs_call (T := TT) extOk (f := 43) (fn := c_ref32_ahead) (args := [u.a, v.a]) (ob := []) (ks := [0]) (P := IsB) (by kernel_rfl) rfl (by simp) (by
    show Outs (fun Q => wpU TT c_ref32_ahead_B ⟨[(0, u.a), (1, v.a)], [], 1⟩ Q) _
    simp only [c_ref32_ahead_B_eq]
    simp [Ver.a, Per.a]
    refine outs_ite (fun _ => outs_ite (fun _ => ?_) (fun _ => ?_)) (fun _ => ?_)
    · exact outs_q ⟨.inr rfl, _, _, rfl, rfl, _, rfl⟩
    · exact outs_q ⟨.inr rfl, _, _, rfl, rfl, _, rfl⟩
    · exact outs_q ⟨.inr rfl, _, _, rfl, rfl, _, rfl⟩)
  exact ⟨t, h⟩

theorem l_Single0 (l : List Ver) (i : Nat) (hi : i < l.length) (hl : l.length < 4611686018427387904) : ∀ (m n : Nat), n + m = i →
    Outs (fun Q => Holds TT (.loop c_ref32_Single_L0 ⟨[(0, versA l), (3, .i i), (4, .i n)], [], 1⟩ Q)) (fun e s => (e = .exit 2 ∧ s = ⟨[(0, versA l), (3, .i i)], [], 1⟩) ∨ (e = .ret ∧ s = ⟨[(2, .b false)], [], 1⟩))
  | 0, n, hn => by
    have hn' : n = i := by omega
    subst hn'
    refine outs_loop ?_
    simp only [c_ref32_Single_L0_eq]
    simp
    exact outs_q (.inl ⟨rfl, rfl⟩)
  | m + 1, n, hn => by
    have h1 : n < i := by omega
    have e1 : l[n]? = some l[n] := List.getElem?_eq_getElem (by omega)
    have e2 : l[i]? = some l[i] := List.getElem?_eq_getElem hi
    refine outs_loop ?_
    simp only [c_ref32_Single_L0_eq]
    simp [h1, versA_get l n _ e1, versA_get l i _ e2, Ver.a, inc_nat (n := n) (by omega)]
    refine outs_ite (fun _ => outs_q (.inr ⟨rfl, rfl⟩)) (fun _ => ?_)
    exact l_Single0 l i hi hl m (n + 1) (by omega)

theorem l_Single1 (l : List Ver) (hl : l.length < 4611686018427387904) : ∀ (m n : Nat), n + m = l.length →
    Outs (fun Q => Holds TT (.loop c_ref32_Single_L1 ⟨[(0, versA l), (3, .i n)], [], 1⟩ Q)) (fun e s => (e = .exit 0 ∧ s = ⟨[], [], 1⟩) ∨ (e = .ret ∧ s = ⟨[(2, .b false)], [], 1⟩))
  | 0, n, hn => by
    have hn' : n = l.length := by omega
    subst hn'
    refine outs_loop ?_
    simp only [c_ref32_Single_L1_eq]
    simp
    exact outs_q (.inl ⟨rfl, rfl⟩)
  | m + 1, n, hn => by
    have h1 : n < l.length := by omega
    refine outs_loop ?_
    simp only [c_ref32_Single_L1_eq]
    simp [h1]
    refine outs_bind (l_Single0 l n h1 hl n 0 (by omega)) ?_
    rintro e s (⟨rfl, rfl⟩ | ⟨rfl, rfl⟩)
    · simp [c_ref32_Single_R0_eq, inc_nat (n := n) (by omega)]
      exact l_Single1 l hl m (n + 1) (by omega)
    · simp
      exact outs_q (.inr ⟨rfl, rfl⟩)

theorem u_Single (l : List Ver) (hl : l.length < 4611686018427387904) : ∃ b, retZ TT 23 [versA l] [] [0] = some (.b b) := by
  obtain ⟨b, ⟨t, rfl⟩, h⟩ := outs_call (T := TT) extOk (f := 23) (fn := c_ref32_Single) (args := [versA l]) (ob := []) (ks := [0]) (P := IsB) (by kernel_rfl) rfl (by simp) (by
    show Outs (fun Q => wpU TT c_ref32_Single_B ⟨[(0, versA l)], [], 1⟩ Q) _
    simp only [c_ref32_Single_B_eq]
    refine outs_bind (l_Single1 l hl l.length 0 (by omega)) ?_
    rintro e s (⟨rfl, rfl⟩ | ⟨rfl, rfl⟩)
    · simp [c_ref32_Single_R1_eq]
      exact outs_q ⟨.inr rfl, _, _, rfl, rfl, _, rfl⟩
    · simp
      exact outs_q ⟨.inr rfl, _, _, rfl, rfl, _, rfl⟩)
  exact ⟨t, h⟩
end Go.Fw
/-
  Check of the reference yields.
-/
namespace Go.Fw

theorem l_Check1 (l : List Ver) (i tk : Nat) (hi : i < l.length) (hl : l.length < 4611686018427387904) : ∀ (m n : Nat), n + m = i →
    Outs (fun Q => Holds TT (.loop c_ref32_Check_L1 ⟨[(0, versA l), (6, .i i), (7, .i n)], [], tk⟩ Q)) (fun e s => (e = .exit 4 ∧ s = ⟨[(0, versA l), (6, .i i)], [], tk⟩) ∨ (e = .ret ∧ s = ⟨[(2, .i 24)], [], tk⟩))
  | 0, n, hn => by
    have hn' : n = i := by omega
    subst hn'
    refine outs_loop ?_
    simp only [c_ref32_Check_L1_eq]
    simp
    exact outs_q (.inl ⟨rfl, rfl⟩)
  | m + 1, n, hn => by
    have h1 : n < i := by omega
    have e1 : l[n]? = some l[n] := List.getElem?_eq_getElem (by omega)
    have e2 : l[i]? = some l[i] := List.getElem?_eq_getElem hi
    refine outs_loop ?_
    simp only [c_ref32_Check_L1_eq]
    simp [h1, versA_get l n _ e1, versA_get l i _ e2, Ver.a, inc_nat (n := n) (by omega), u_Overlaps]
    refine outs_ite (fun _ => outs_q (.inr ⟨rfl, rfl⟩)) (fun _ => ?_)
    exact l_Check1 l i tk hi hl m (n + 1) (by omega)

theorem l_Check2 (l : List Ver) (tk : Nat) (hl : l.length < 4611686018427387904) : ∀ (m n : Nat), n + m = l.length →
    Outs (fun Q => Holds TT (.loop c_ref32_Check_L2 ⟨[(0, versA l), (6, .i n)], [], tk⟩ Q)) (fun e s => (e = .exit 2 ∧ s = ⟨[], [], tk⟩) ∨ (e = .ret ∧ s = ⟨[(2, .i 24)], [], tk⟩))
  | 0, n, hn => by
    have hn' : n = l.length := by omega
    subst hn'
    refine outs_loop ?_
    simp only [c_ref32_Check_L2_eq]
    simp
    exact outs_q (.inl ⟨rfl, rfl⟩)
  | m + 1, n, hn => by
    have h1 : n < l.length := by omega
    refine outs_loop ?_
    simp only [c_ref32_Check_L2_eq]
    simp [h1]
    refine outs_bind (l_Check1 l n tk h1 hl n 0 (by omega)) ?_
    rintro e s (⟨rfl, rfl⟩ | ⟨rfl, rfl⟩)
    · simp [c_ref32_Check_R0_eq, inc_nat (n := n) (by omega)]
      exact l_Check2 l tk hl m (n + 1) (by omega)
    · simp
      exact outs_q (.inr ⟨rfl, rfl⟩)

theorem l_Check0 (l : List Ver) (hl : l.length < 4611686018427387904) (hr : ∀ v ∈ l, v.row.length ≤ 60) : ∀ (m n tk : Nat), n + m = l.length →
    Outs (fun Q => Holds TT (.loop c_ref32_Check_L0 ⟨[(0, versA l), (3, .i n)], [], tk⟩ Q)) (fun e s => (e = .exit 0 ∧ ∃ tk, s = ⟨[(0, versA l)], [], tk⟩) ∨ (e = .ret ∧ ∃ k, s.env = [(2, .i k)]))
  | 0, n, tk, hn => by
    have hn' : n = l.length := by omega
    subst hn'
    refine outs_loop ?_
    simp only [c_ref32_Check_L0_eq]
    simp
    exact outs_q (.inl ⟨rfl, tk, rfl⟩)
  | m + 1, n, tk, hn => by
    have h1 : n < l.length := by omega
    have e1 : l[n]? = some l[n] := List.getElem?_eq_getElem h1
    obtain ⟨b, hb⟩ := u_invalid l[n]
    refine outs_loop ?_
    simp only [c_ref32_Check_L0_eq]
    by_cases hz : n = 0
    · subst hz
      have g0 : iaddrV 9 (versA l) (.i 0) = some (.cptr l[0].a) := versA_get l 0 _ e1
      have w1 : IntKind.i64.wrap 1 = ((1 : Nat) : Int) := by rw [wrap_small (by omega) (by omega)]; rfl
      simp [h1, g0, hb, w1]
      refine outs_ite (fun _ => outs_q (Or.inr ⟨rfl, _, rfl⟩)) (fun _ => ?_)
      exact l_Check0 l hl hr m 1 tk (by omega)
    · obtain ⟨k, rfl⟩ : ∃ k, n = k + 1 := ⟨n - 1, by omega⟩
      have e2 : l[k]? = some l[k] := List.getElem?_eq_getElem (by omega)
      obtain ⟨b2, hb2⟩ := u_ahead l[k] l[k+1]
      have hw : IntKind.i64.wrap (((k + 1 : Nat) : Int) - 1) = (k : Int) := by
        rw [wrap_small (by omega) (by omega)]
        omega
      have hne : ¬ (((k + 1 : Nat) : Int) = 0) := by omega
      have hr1 := u_rowCmp l[k].row l[k+1].row (by have := hr l[k] (List.getElem_mem _); omega)
      simp [h1, versA_get l (k+1) _ e1, versA_get l k _ e2, hb, hw, hne, -Int.natCast_add]
      refine outs_ite (fun _ => outs_q (Or.inr ⟨rfl, _, rfl⟩)) (fun _ => ?_)
      simp [c_ref32_Check_U0, hb2, finV, MO.seen]
      refine outs_ite (fun _ => ?_) (fun _ => outs_q (Or.inr ⟨rfl, _, rfl⟩))
      have w2 : IntKind.i64.wrap ((k : Int) + 1 + 1) = ((k + 1 + 1 : Nat) : Int) := by
        rw [wrap_small (by omega) (by omega)]
        omega
      have ih := l_Check0 l hl hr m (k + 1 + 1) (tk + 13) (by omega)
      simp [Ver.a, hr1, orA_if, w2, -Int.natCast_add]
      repeat' first
        | exact ih
        | exact outs_q (Or.inr ⟨rfl, _, rfl⟩)
        | refine outs_ite (fun _ => ?_) (fun _ => ?_)

theorem u_Check (l : List Ver) (hl : l.length < 4611686018427387904) (hr : ∀ v ∈ l, v.row.length ≤ 60) : ∃ n, retZ TT 10 [versA l] [] [0] = some (.i n) := by
  obtain ⟨b, ⟨t, rfl⟩, h⟩ := outs_call (T := TT) extOk (f := 10) (fn := c_ref32_Check) (args := [versA l]) (ob := []) (ks := [0]) (P := IsI) (by kernel_rfl) rfl (by simp) (by
    show Outs (fun Q => wpU TT c_ref32_Check_B ⟨[(0, versA l)], [], 1⟩ Q) _
    simp only [c_ref32_Check_B_eq]
    refine outs_bind (l_Check0 l hl hr l.length 0 1 (by omega)) ?_
    rintro e s (⟨rfl, tk, rfl⟩ | ⟨rfl, k, h1⟩)
    · simp [c_ref32_Check_R2_eq]
      refine outs_bind (l_Check2 l tk hl l.length 0 (by omega)) ?_
      rintro e s (⟨rfl, rfl⟩ | ⟨rfl, rfl⟩)
      · simp [c_ref32_Check_R1_eq]
        exact outs_q ⟨.inr rfl, _, _, rfl, rfl, _, rfl⟩
      · simp
        exact outs_q ⟨.inr rfl, _, _, rfl, rfl, _, rfl⟩
    · obtain ⟨env, ob, tk⟩ := s
      simp only at h1
      subst h1
      simp
      exact outs_q ⟨.inr rfl, _, _, rfl, rfl, _, rfl⟩)
  exact ⟨t, h⟩
end Go.Fw
/-
  Undo, of the program and of the reference: both yield the same list.
-/
namespace Go.Fw

def undoV (tx : Int) (v : Ver) : Ver := if tx ≤ v.til then ⟨v.id, v.schema, v.row, v.valid, ⟨v.system.lo, 1099511627776⟩, v.by', 0⟩ else v
def undo1 (tx : Int) (v : Ver) : Option Ver := if tx ≤ v.by' then none else some (undoV tx v)
def undoL (tx : Int) (l : List Ver) : List Ver := l.filterMap (undo1 tx)
theorem undoL_take (tx : Int) (l : List Ver) (n : Nat) (v : Ver) (h : l[n]? = some v) : undoL tx (l.take (n + 1)) = undoL tx (l.take n) ++ (undo1 tx v).toList := by
  unfold undoL
  rw [List.take_add_one, h, List.filterMap_append]
  simp only [Option.toList, List.filterMap_cons, List.filterMap_nil]
  cases undo1 tx v <;> rfl
theorem undoL_len (tx : Int) (l : List Ver) : (undoL tx l).length ≤ l.length := List.length_filterMap_le ..
theorem run_clone {k lim : Nat} {ob : Ob} {xs : List AV} (h : xs.length ≤ lim) : (cloneV k lim .e0 (.sl k xs)).run ob = some (.sl k xs) := by
  simp [cloneV, AV.appElems, AV.elems, MO.bind, MO.run, h]

theorem l_dUndo (l : List Ver) (tx : Int) (hb : l.length ≤ 16) (hr : ∀ v ∈ l, v.row.length ≤ 60) : ∀ (m n tk g : Nat), n + m = l.length →
    Outs (fun Q => Holds TT (.loop c_delta_Undo_L0 ⟨[(1, .i tx), (5, .own 2401 g 9 0 (undoL tx (l.take n)).length), (8, versA l), (9, .i l.length), (10, .i n)], [(2401, g, .arr 9 ((undoL tx (l.take n)).map Ver.a))], tk⟩ Q))
      (fun e s => e = .exit 0 ∧ ∃ g, s.env = [(5, .own 2401 g 9 0 (undoL tx l).length)] ∧ s.ob = [(2401, g, .arr 9 ((undoL tx l).map Ver.a))])
  | 0, n, tk, g, hn => by
    have hn' : n = l.length := by omega
    subst hn'
    refine outs_loop ?_
    simp only [c_delta_Undo_L0_eq]
    simp
    exact outs_q ⟨rfl, g, rfl, rfl⟩
  | m + 1, n, tk, g, hn => by
    have h1 : n < l.length := by omega
    have e1 : l[n]? = some l[n] := List.getElem?_eq_getElem h1
    have hlen := undoL_len tx (l.take n)
    have hlen2 : (undoL tx (l.take n)).length ≤ 16 := by simp at hlen; omega
    have hrow : l[n].row.length ≤ 60 := hr _ (List.getElem_mem _)
    refine outs_loop ?_
    simp only [c_delta_Undo_L0_eq]
    by_cases hy : tx ≤ l[n].by'
    · have ih := l_dUndo l tx hb hr m (n + 1) (tk + 4) g (by omega)
      rw [undoL_take tx l n _ e1] at ih
      simp only [undo1, hy, if_true, Option.toList, List.append_nil] at ih
      simp [h1, versA_get l n _ e1, Ver.a, hy, c_delta_Undo_R1_eq, inc_nat (n := n) (by omega)]
      exact ih
    · have hlim : (undoL tx (l.take n)).length + 1 ≤ 1599289640401 := by omega
      have hlr : l[n].row.length ≤ 4398046511104 := by omega
      have hx : List.take (undoL tx (List.take n l)).length (List.map Ver.a (undoL tx (List.take n l))) = List.map Ver.a (undoL tx (List.take n l)) := List.take_of_length_le (by simp)
      by_cases ht : tx ≤ l[n].til
      · simp [h1, versA_get l n _ e1, Ver.a, Per.a, hy, ht, c_delta_Undo_R1_eq, c_delta_Undo_R1_eq1, c_delta_Undo_R0_eq, inc_nat (n := n) (by omega), storeV, AObj.setAt, AV.setAt, rowA, run_clone, hlr, bslV, fillV, appV, AV.appElems, AV.elems, MO.bind, MO.run, hlim, hx]
        have ih := l_dUndo l tx hb hr m (n + 1) (tk + 4 + 5 + 6 + 5) (tk + 4 + 5 + 6 + 3) (by omega)
        rw [undoL_take tx l n _ e1] at ih
        simp only [undo1, hy, if_false, Option.toList, List.length_append, List.map_append, List.length_cons, List.length_nil, List.map_cons, List.map_nil] at ih
        have hv : (undoV tx l[n]).a = .agg [1, 1, 1, 2, 2, 1, 1] [.i l[n].id, .i l[n].schema, .sl 3 (l[n].row.map Val.a), .agg [1, 1] [.i l[n].valid.lo, .i l[n].valid.hi], .agg [1, 1] [.i l[n].system.lo, .i 1099511627776], .i l[n].by', .i 0] := by simp [undoV, ht, Ver.a, Per.a, rowA]
        rw [hv] at ih
        exact ih
      · simp [h1, versA_get l n _ e1, Ver.a, Per.a, hy, ht, c_delta_Undo_R1_eq, c_delta_Undo_R1_eq1, c_delta_Undo_R0_eq, inc_nat (n := n) (by omega), storeV, AObj.setAt, AV.setAt, rowA, run_clone, hlr, bslV, fillV, appV, AV.appElems, AV.elems, MO.bind, MO.run, hlim, hx]
        have ih := l_dUndo l tx hb hr m (n + 1) (tk + 4 + 6 + 5) (tk + 4 + 6 + 3) (by omega)
        rw [undoL_take tx l n _ e1] at ih
        simp only [undo1, hy, if_false, Option.toList, List.length_append, List.map_append, List.length_cons, List.length_nil, List.map_cons, List.map_nil] at ih
        have hv : (undoV tx l[n]).a = .agg [1, 1, 1, 2, 2, 1, 1] [.i l[n].id, .i l[n].schema, .sl 3 (l[n].row.map Val.a), .agg [1, 1] [.i l[n].valid.lo, .i l[n].valid.hi], .agg [1, 1] [.i l[n].system.lo, .i l[n].system.hi], .i l[n].by', .i l[n].til] := by simp [undoV, ht, Ver.a, Per.a, rowA]
        rw [hv] at ih
        exact ih

theorem u_dUndo (l : List Ver) (tx : Int) (hb : l.length ≤ 16) (hr : ∀ v ∈ l, v.row.length ≤ 60) : retZ TT 24 [versA l, .i tx] [] [9] = some (versA (undoL tx l)) := by
  obtain ⟨b, rfl, h⟩ := outs_call (T := TT) extOk (f := 24) (fn := c_delta_Undo) (args := [versA l, .i tx]) (ob := []) (ks := [9]) (P := fun b => b = versA (undoL tx l)) (by kernel_rfl) rfl (by simp) (by
    show Outs (fun Q => wpU TT c_delta_Undo_B ⟨[(0, versA l), (1, .i tx)], [], 1⟩ Q) _
    simp only [c_delta_Undo_B_eq]
    simp [newV, MO.run]
    refine outs_bind (l_dUndo l tx hb hr l.length 0 2 1 (by omega)) ?_
    rintro e s ⟨rfl, g, h1, h2⟩
    obtain ⟨env, ob, tk⟩ := s
    simp only at h1 h2
    subst h1 h2
    simp [blkK, seqK, wpU, boxed_eq, c_delta_Undo_R2_eq]
    refine outs_q ⟨.inr rfl, _, _, rfl, ?_, rfl⟩
    exact frozen_own (xs := (undoL tx l).map Ver.a) rfl (by simp) (pureBs_map _ (fun v => Ver.a_pure _) _))
  exact h

theorem l_rUndo (l : List Ver) (tx : Int) (hb : l.length ≤ 16) (hr : ∀ v ∈ l, v.row.length ≤ 60) : ∀ (m n tk g : Nat), n + m = l.length →
    Outs (fun Q => Holds TT (.loop c_ref32_Undo_L0 ⟨[(0, versA l), (1, .i tx), (5, .own 2501 g 9 0 (undoL tx (l.take n)).length), (6, .i n)], [(2501, g, .arr 9 ((undoL tx (l.take n)).map Ver.a))], tk⟩ Q))
      (fun e s => e = .exit 0 ∧ ∃ g, s.env = [(5, .own 2501 g 9 0 (undoL tx l).length)] ∧ s.ob = [(2501, g, .arr 9 ((undoL tx l).map Ver.a))])
  | 0, n, tk, g, hn => by
    have hn' : n = l.length := by omega
    subst hn'
    refine outs_loop ?_
    simp only [c_ref32_Undo_L0_eq]
    simp
    exact outs_q ⟨rfl, g, rfl, rfl⟩
  | m + 1, n, tk, g, hn => by
    have h1 : n < l.length := by omega
    have e1 : l[n]? = some l[n] := List.getElem?_eq_getElem h1
    have hlen := undoL_len tx (l.take n)
    have hlen2 : (undoL tx (l.take n)).length ≤ 16 := by simp at hlen; omega
    have hrow : l[n].row.length ≤ 60 := hr _ (List.getElem_mem _)
    refine outs_loop ?_
    simp only [c_ref32_Undo_L0_eq]
    by_cases hy : tx ≤ l[n].by'
    · have ih := l_rUndo l tx hb hr m (n + 1) (tk + 6) g (by omega)
      rw [undoL_take tx l n _ e1] at ih
      simp only [undo1, hy, if_true, Option.toList, List.append_nil] at ih
      simp [h1, versA_get l n _ e1, Ver.a, hy, inc_nat (n := n) (by omega)]
      exact ih
    · have hlim : (undoL tx (l.take n)).length + 1 ≤ 1599289640401 := by omega
      have hlr : l[n].row.length ≤ 4398046511104 := by omega
      have hx : List.take (undoL tx (List.take n l)).length (List.map Ver.a (undoL tx (List.take n l))) = List.map Ver.a (undoL tx (List.take n l)) := List.take_of_length_le (by simp)
      by_cases ht : tx ≤ l[n].til
      · simp [h1, versA_get l n _ e1, Ver.a, Per.a, hy, ht, bnd_app, inc_nat (n := n) (by omega), storeV, AObj.setAt, AV.setAt, rowA, run_clone, hlr, bslV, fillV, appV, AV.appElems, AV.elems, MO.bind, MO.run, hlim, hx]
        have ih := l_rUndo l tx hb hr m (n + 1) (tk + 6 + 3 + 2 + 5) (tk + 6 + 3 + 2 + 3) (by omega)
        rw [undoL_take tx l n _ e1] at ih
        simp only [undo1, hy, if_false, Option.toList, List.length_append, List.map_append, List.length_cons, List.length_nil, List.map_cons, List.map_nil] at ih
        have hv : (undoV tx l[n]).a = .agg [1, 1, 1, 2, 2, 1, 1] [.i l[n].id, .i l[n].schema, .sl 3 (l[n].row.map Val.a), .agg [1, 1] [.i l[n].valid.lo, .i l[n].valid.hi], .agg [1, 1] [.i l[n].system.lo, .i 1099511627776], .i l[n].by', .i 0] := by simp [undoV, ht, Ver.a, Per.a, rowA]
        rw [hv] at ih
        exact ih
      · simp [h1, versA_get l n _ e1, Ver.a, Per.a, hy, ht, bnd_app, inc_nat (n := n) (by omega), storeV, AObj.setAt, AV.setAt, rowA, run_clone, hlr, bslV, fillV, appV, AV.appElems, AV.elems, MO.bind, MO.run, hlim, hx]
        have ih := l_rUndo l tx hb hr m (n + 1) (tk + 6 + 5) (tk + 6 + 3) (by omega)
        rw [undoL_take tx l n _ e1] at ih
        simp only [undo1, hy, if_false, Option.toList, List.length_append, List.map_append, List.length_cons, List.length_nil, List.map_cons, List.map_nil] at ih
        have hv : (undoV tx l[n]).a = .agg [1, 1, 1, 2, 2, 1, 1] [.i l[n].id, .i l[n].schema, .sl 3 (l[n].row.map Val.a), .agg [1, 1] [.i l[n].valid.lo, .i l[n].valid.hi], .agg [1, 1] [.i l[n].system.lo, .i l[n].system.hi], .i l[n].by', .i l[n].til] := by simp [undoV, ht, Ver.a, Per.a, rowA]
        rw [hv] at ih
        exact ih

theorem u_rUndo (l : List Ver) (tx : Int) (hb : l.length ≤ 16) (hr : ∀ v ∈ l, v.row.length ≤ 60) : retZ TT 25 [versA l, .i tx] [] [9] = some (versA (undoL tx l)) := by
  obtain ⟨b, rfl, h⟩ := outs_call (T := TT) extOk (f := 25) (fn := c_ref32_Undo) (args := [versA l, .i tx]) (ob := []) (ks := [9]) (P := fun b => b = versA (undoL tx l)) (by kernel_rfl) rfl (by simp) (by
    show Outs (fun Q => wpU TT c_ref32_Undo_B ⟨[(0, versA l), (1, .i tx)], [], 1⟩ Q) _
    simp only [c_ref32_Undo_B_eq]
    simp [newV, MO.run]
    refine outs_bind (l_rUndo l tx hb hr l.length 0 2 1 (by omega)) ?_
    rintro e s ⟨rfl, g, h1, h2⟩
    obtain ⟨env, ob, tk⟩ := s
    simp only at h1 h2
    subst h1 h2
    simp [blkK, seqK, wpU, boxed_eq, c_ref32_Undo_R0_eq]
    refine outs_q ⟨.inr rfl, _, _, rfl, ?_, rfl⟩
    exact frozen_own (xs := (undoL tx l).map Ver.a) rfl (by simp) (pureBs_map _ (fun v => Ver.a_pure _) _))
  exact h
end Go.Fw
/-
  DeltaUndoes yields true.
-/
namespace Go.Fw

theorem u_SameVersion (v : Ver) (hr : v.row.length ≤ 60) : retZ TT 53 [v.a, v.a] [] [0] = some (.b true) := by
  refine retZ_of extOk (fn := c_ref28_SameVersion) (by kernel_rfl) rfl (by simp) ?_
  show wpU TT c_ref28_SameVersion_B ⟨[(0, v.a), (1, v.a)], [], 1⟩ _
  rw [c_ref28_SameVersion_B_eq]
  have hc := u_rowCmp v.row v.row (by omega)
  rw [rowCmp_self] at hc
  simp [Ver.a, Per.a, c_ref28_SameVersion_R3_eq, c_ref28_SameVersion_R2_eq, c_ref28_SameVersion_R1_eq, c_ref28_SameVersion_R0_eq, hc, AFun.result, c_ref28_SameVersion, rvAll, RV.ev]

theorem l_SameVersions (l : List Ver) (hl : l.length ≤ 1000000) (hr : ∀ v ∈ l, v.row.length ≤ 60) : ∀ (m n : Nat), n + m = l.length →
    Outs (fun Q => Holds TT (.loop c_ref28_SameVersions_L0 ⟨[(0, versA l), (1, versA l), (5, .i n)], [], 1⟩ Q)) (fun e s => e = .exit 0 ∧ s = ⟨[], [], 1⟩)
  | 0, n, hn => by
    have hn' : n = l.length := by omega
    subst hn'
    refine outs_loop ?_
    simp only [c_ref28_SameVersions_L0_eq]
    simp
    exact outs_q ⟨rfl, rfl⟩
  | m + 1, n, hn => by
    have h1 : n < l.length := by omega
    have e1 : l[n]? = some l[n] := List.getElem?_eq_getElem h1
    refine outs_loop ?_
    simp only [c_ref28_SameVersions_L0_eq]
    simp [h1, versA_get l n _ e1, u_SameVersion l[n] (hr _ (List.getElem_mem _)), inc_nat (n := n) (by omega)]
    exact l_SameVersions l hl hr m (n + 1) (by omega)

theorem u_SameVersions (l : List Ver) (hl : l.length ≤ 1000000) (hr : ∀ v ∈ l, v.row.length ≤ 60) : retZ TT 21 [versA l, versA l] [] [0] = some (.b true) := by
  obtain ⟨b, rfl, h⟩ := outs_call (T := TT) extOk (f := 21) (fn := c_ref28_SameVersions) (args := [versA l, versA l]) (ob := []) (ks := [0]) (P := fun b => b = .b true) (by kernel_rfl) rfl (by simp) (by
    show Outs (fun Q => wpU TT c_ref28_SameVersions_B ⟨[(0, versA l), (1, versA l)], [], 1⟩ Q) _
    simp only [c_ref28_SameVersions_B_eq]
    simp
    refine outs_bind (l_SameVersions l hl hr l.length 0 (by omega)) ?_
    rintro e s ⟨rfl, rfl⟩
    simp [c_ref28_SameVersions_R0_eq]
    exact outs_q ⟨.inr rfl, _, _, rfl, rfl, rfl⟩)
  exact h

theorem undoV_row (tx : Int) (v : Ver) : (undoV tx v).row = v.row := by
  unfold undoV
  split <;> rfl
theorem undoL_row {tx : Int} {l : List Ver} (hr : ∀ v ∈ l, v.row.length ≤ 60) : ∀ v ∈ undoL tx l, v.row.length ≤ 60 := by
  intro v hv
  obtain ⟨u, hu, h⟩ := List.mem_filterMap.1 hv
  unfold undo1 at h
  split at h
  · cases h
  · cases h
    rw [undoV_row]
    exact hr u hu

/-- DeltaUndoes. -/
theorem u_DeltaUndoes (l : List Ver) (tx : Int) (hb : l.length ≤ 3518437208883) : retZ TT 22 [versA l, .i tx] [] [0] = some (.b true) := by
  obtain ⟨b, hf, hs⟩ := u_few l hb
  refine retZ_of extOk (fn := c_law32_DeltaUndoes) (by kernel_rfl) rfl (by simp) ?_
  show wpU TT c_law32_DeltaUndoes_B ⟨[(0, versA l), (1, .i tx)], [], 1⟩ _
  rw [c_law32_DeltaUndoes_B_eq]
  cases b with
  | false => simp [hf, c_law32_DeltaUndoes_R1_eq, c_law32_DeltaUndoes_R0_eq, orA_if, awake_ok, AFun.result, c_law32_DeltaUndoes, rvAll, RV.ev]
  | true =>
    obtain ⟨h16, h60⟩ := hs rfl
    obtain ⟨c, hc⟩ := u_Check l (by omega) h60
    obtain ⟨s, hs⟩ := u_Single l (by omega)
    have hu := undoL_len tx l
    simp [hf, c_law32_DeltaUndoes_R1_eq, c_law32_DeltaUndoes_R0_eq, awake_ok, hc, hs, u_dUndo l tx h16 h60, u_rUndo l tx h16 h60, u_SameVersions _ (Nat.le_trans hu (by omega)) (undoL_row h60), AFun.result, c_law32_DeltaUndoes, rvAll, RV.ev]
end Go.Fw
