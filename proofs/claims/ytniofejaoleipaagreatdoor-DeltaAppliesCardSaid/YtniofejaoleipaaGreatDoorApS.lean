import Derived.Test.YtniofejaoleipaaGreatDoorDelS
import Derived.Test.YtniofejaoleipaaGreatDoorApE
/-
  What DeltaApplies leans on: open versions, find.
-/
namespace Go.Fw

def openB (v : Ver) : Bool := v.system.ok && v.system.hi == 1099511627776
theorem u_pValid (p : Per) : retZ TT 65 [p.a] [] [0] = some (.b p.ok) := by
  refine retZ_of extOk (fn := c_period_Valid) (by kernel_rfl) rfl (by simp) ?_
  show wpU TT c_period_Valid_B ⟨[(0, p.a)], [], 1⟩ _
  rw [c_period_Valid_B_eq]
  simp [Per.a, Per.ok, AFun.result, c_period_Valid, rvAll, RV.ev]
theorem u_dopen (v : Ver) : retZ TT 50 [v.a] [] [0] = some (.b (openB v)) := by
  refine retZ_of extOk (fn := c_delta_open) (by kernel_rfl) rfl (by simp) ?_
  show wpU TT c_delta_open_B ⟨[(0, v.a)], [], 1⟩ _
  rw [c_delta_open_B_eq]
  simp [Ver.a, u_pValid]
  simp [Per.a, openB, AFun.result, c_delta_open, rvAll, RV.ev]
theorem u_Open (v : Ver) : retZ TT 27 [v.a] [] [0] = some (.b (openB v)) := by
  refine retZ_of extOk (fn := c_ref32_Open) (by kernel_rfl) rfl (by simp) ?_
  show wpU TT c_ref32_Open_B ⟨[(0, v.a)], [], 1⟩ _
  rw [c_ref32_Open_B_eq]
  simp [Ver.a, u_Valid]
  simp [Per.a, openB, AFun.result, c_ref32_Open, rvAll, RV.ev]
theorem u_isNaN (n : Int) : retZ TT 75 [.i n] [] [0] = some (.b false) := by
  refine retZ_of extOk (fn := c_cmp_isNaN_int) (by kernel_rfl) rfl (by simp) ?_
  show wpU TT c_cmp_isNaN_int_B ⟨[(0, .i n)], [], 1⟩ _
  rw [c_cmp_isNaN_int_B_eq]
  simp [AFun.result, c_cmp_isNaN_int, rvAll, RV.ev]
theorem u_isNaN2 (n : Int) : retZ TT 78 [.i n] [] [0] = some (.b false) := by
  refine retZ_of extOk (fn := c_slices_isNaN_int) (by kernel_rfl) rfl (by simp) ?_
  show wpU TT c_slices_isNaN_int_B ⟨[(0, .i n)], [], 1⟩ _
  rw [c_slices_isNaN_int_B_eq]
  simp [AFun.result, c_slices_isNaN_int, rvAll, RV.ev]
theorem u_Less (a b : Int) : retZ TT 77 [.i a, .i b] [] [0] = some (.b (decide (a < b))) := by
  refine retZ_of extOk (fn := c_cmp_Less_int) (by kernel_rfl) rfl (by simp) ?_
  show wpU TT c_cmp_Less_int_B ⟨[(0, .i a), (1, .i b)], [], 1⟩ _
  rw [c_cmp_Less_int_B_eq]
  simp [u_isNaN, AFun.result, c_cmp_Less_int, rvAll, RV.ev]

theorem l_Plain0 (l : List Ver) (i : Nat) (hi : i < l.length) (hl : l.length < 4611686018427387904) : ∀ (m n : Nat), n + m = i →
    Outs (fun Q => Holds TT (.loop c_ref32_Plain_L0 ⟨[(0, versA l), (3, .i i), (4, .i n)], [], 1⟩ Q)) (fun e s => (e = .exit 2 ∧ s = ⟨[(0, versA l), (3, .i i)], [], 1⟩) ∨ (e = .ret ∧ s = ⟨[(2, .b false)], [], 1⟩))
  | 0, n, hn => by
    have hn' : n = i := by omega
    subst hn'
    refine outs_loop ?_
    simp only [c_ref32_Plain_L0_eq]
    simp
    exact outs_q (.inl ⟨rfl, rfl⟩)
  | m + 1, n, hn => by
    have h1 : n < i := by omega
    have e1 : l[n]? = some l[n] := List.getElem?_eq_getElem (by omega)
    have e2 : l[i]? = some l[i] := List.getElem?_eq_getElem hi
    refine outs_loop ?_
    simp only [c_ref32_Plain_L0_eq]
    simp [h1, versA_get l n _ e1, versA_get l i _ e2, u_Open]
    simp [Ver.a, inc_nat (n := n) (by omega)]
    refine outs_ite (fun _ => outs_q (.inr ⟨rfl, rfl⟩)) (fun _ => ?_)
    exact l_Plain0 l i hi hl m (n + 1) (by omega)

theorem l_Plain1 (l : List Ver) (hl : l.length < 4611686018427387904) : ∀ (m n : Nat), n + m = l.length →
    Outs (fun Q => Holds TT (.loop c_ref32_Plain_L1 ⟨[(0, versA l), (3, .i n)], [], 1⟩ Q)) (fun e s => (e = .exit 0 ∧ s = ⟨[], [], 1⟩) ∨ (e = .ret ∧ s = ⟨[(2, .b false)], [], 1⟩))
  | 0, n, hn => by
    have hn' : n = l.length := by omega
    subst hn'
    refine outs_loop ?_
    simp only [c_ref32_Plain_L1_eq]
    simp
    exact outs_q (.inl ⟨rfl, rfl⟩)
  | m + 1, n, hn => by
    have h1 : n < l.length := by omega
    refine outs_loop ?_
    simp only [c_ref32_Plain_L1_eq]
    simp [h1]
    refine outs_bind (l_Plain0 l n h1 hl n 0 (by omega)) ?_
    rintro e s (⟨rfl, rfl⟩ | ⟨rfl, rfl⟩)
    · simp [c_ref32_Plain_R0_eq, inc_nat (n := n) (by omega)]
      exact l_Plain1 l hl m (n + 1) (by omega)
    · simp
      exact outs_q (.inr ⟨rfl, rfl⟩)

theorem u_Plain (l : List Ver) (hl : l.length < 4611686018427387904) : ∃ b, retZ TT 13 [versA l] [] [0] = some (.b b) := by
  obtain ⟨b, ⟨t, rfl⟩, h⟩ := outs_call (T := TT) extOk (f := 13) (fn := c_ref32_Plain) (args := [versA l]) (ob := []) (ks := [0]) (P := IsB) (by kernel_rfl) rfl (by simp) (by
    show Outs (fun Q => wpU TT c_ref32_Plain_B ⟨[(0, versA l)], [], 1⟩ Q) _
    simp only [c_ref32_Plain_B_eq]
    refine outs_bind (l_Plain1 l hl l.length 0 (by omega)) ?_
    rintro e s (⟨rfl, rfl⟩ | ⟨rfl, rfl⟩)
    · simp [c_ref32_Plain_R1_eq]
      exact outs_q ⟨.inr rfl, _, _, rfl, rfl, _, rfl⟩
    · simp
      exact outs_q ⟨.inr rfl, _, _, rfl, rfl, _, rfl⟩)
  exact ⟨t, h⟩

/-- The open version with an identity. -/
def isV (id : Int) (v : Ver) : Bool := openB v && v.id == id
def findV (id : Int) (l : List Ver) : Option Ver := l.find? (isV id)

def FindR (id : Int) (l : List Ver) (b : AV) : Prop := (b = .i (-1) ∧ findV id l = none) ∨ ∃ (n : Nat) (v : Ver), b = .i n ∧ l[n]? = some v ∧ findV id l = some v
def FindS (id : Int) (l : List Ver) (e : Ex) (s : St) : Prop := (e = .exit 0 ∧ s = ⟨[], [], 1⟩ ∧ findV id l = none) ∨ (e = .ret ∧ ∃ (n : Nat) (v : Ver), s = ⟨[(4, .i n)], [], 1⟩ ∧ l[n]? = some v ∧ findV id l = some v)
theorem l_rfind (l : List Ver) (id : Int) (hl : l.length < 4611686018427387904) : ∀ (m n : Nat), n + m = l.length → findV id (l.take n) = none →
    Outs (fun Q => Holds TT (.loop c_ref32_find_L0 ⟨[(0, versA l), (1, .i id), (5, .i n)], [], 1⟩ Q)) (FindS id l)
  | 0, n, hn, hf => by
    have hn' : n = l.length := by omega
    subst hn'
    rw [List.take_length] at hf
    refine outs_loop ?_
    simp only [c_ref32_find_L0_eq]
    simp
    exact outs_q (.inl ⟨rfl, rfl, hf⟩)
  | m + 1, n, hn, hf => by
    have h1 : n < l.length := by omega
    have e1 : l[n]? = some l[n] := List.getElem?_eq_getElem h1
    have hsplit : findV id (l.take (n + 1)) = if isV id l[n] = true then some l[n] else none := by
      unfold findV at hf ⊢
      rw [List.take_add_one, e1, List.find?_append, hf]
      simp only [Option.toList, Option.none_or, List.find?_cons, List.find?_nil]
      cases isV id l[n] <;> rfl
    refine outs_loop ?_
    simp only [c_ref32_find_L0_eq]
    simp [h1, versA_get l n _ e1, u_Open]
    simp [Ver.a, inc_nat (n := n) (by omega)]
    refine outs_ite (fun hx => ?_) (fun hx => ?_)
    · refine outs_q (.inr ⟨rfl, n, l[n], rfl, e1, ?_⟩)
      have hv : isV id l[n] = true := by simp [isV, hx]
      rw [if_pos hv] at hsplit
      generalize l[n] = v at hsplit
      unfold findV at hsplit ⊢
      rw [← List.take_append_drop (n + 1) l, List.find?_append, hsplit]
      rfl
    · refine l_rfind l id hl m (n + 1) (by omega) ?_
      have hv : ¬ isV id l[n] = true := by simpa [isV] using hx
      rw [hsplit, if_neg hv]

theorem u_rfind (l : List Ver) (id : Int) (hl : l.length < 4611686018427387904) : ∃ b, FindR id l b ∧ retZ TT 51 [versA l, .i id] [] [0] = some b := by
  refine outs_call (T := TT) extOk (f := 51) (fn := c_ref32_find) (args := [versA l, .i id]) (ob := []) (ks := [0]) (P := FindR id l) (by kernel_rfl) rfl (by simp) ?_
  show Outs (fun Q => wpU TT c_ref32_find_B ⟨[(0, versA l), (1, .i id)], [], 1⟩ Q) _
  simp only [c_ref32_find_B_eq]
  refine outs_bind (l_rfind l id hl l.length 0 (by omega) rfl) ?_
  rintro e s (⟨rfl, rfl, h⟩ | ⟨rfl, n, v, rfl, h1, h2⟩)
  · simp [c_ref32_find_R0_eq]
    exact outs_q ⟨.inr rfl, _, _, rfl, rfl, .inl ⟨rfl, h⟩⟩
  · simp
    exact outs_q ⟨.inr rfl, _, _, rfl, rfl, .inr ⟨n, v, rfl, h1, h2⟩⟩
end Go.Fw
/-
  BinarySearch in an ascending list.
-/
namespace Go.Fw

def intsA (l : List Int) : AV := slA 1 (fun n : Int => AV.i n) l
@[simp] theorem intsA_pure (l : List Int) : (intsA l).pureB = true := slA_pure _ _ (fun _ => rfl) l
@[simp] theorem intsA_len (l : List Int) : lenV false (intsA l) = some (.i l.length) := slA_len ..
theorem intsA_get (l : List Int) (n : Nat) (x : Int) (h : l[n]? = some x) : iaddrV 1 (intsA l) (.v (.int .i64 (n : Int))) = some (.cptr (.i x)) := slA_get 1 (fun n : Int => AV.i n) l .i64 n x h

theorem wrap_u64 {n : Int} (h0 : 0 ≤ n) (h1 : n < 9223372036854775808) : IntKind.u64.wrap n = n := by
  simp [IntKind.wrap, IntKind.bits, IntKind.signed]
  omega

def BsS (ids : List Int) (x : Int) (e : Ex) (s : St) : Prop := e = .exit 0 ∧ ∃ p : Nat, s = ⟨[(0, intsA ids), (1, .i x), (6, .i ids.length), (7, .i p)], [], 1⟩ ∧ p ≤ ids.length ∧ (∀ k v, k < p → ids[k]? = some v → v < x) ∧ (∀ k v, p ≤ k → ids[k]? = some v → x ≤ v)
theorem l_bs (ids : List Int) (x : Int) (hl : ids.length ≤ 1000) (hs : ids.Pairwise (· < ·)) : ∀ (m i j : Nat), j - i ≤ m → i ≤ j → j ≤ ids.length → (∀ k v, k < i → ids[k]? = some v → v < x) → (∀ k v, j ≤ k → ids[k]? = some v → x ≤ v) →
    Outs (fun Q => Holds TT (.loop c_slices_BinarySearch_int_int_L0 ⟨[(0, intsA ids), (1, .i x), (6, .i ids.length), (7, .i i), (8, .i j)], [], 1⟩ Q)) (BsS ids x) := by
  intro m
  induction m with
  | zero =>
    intro i j hm hij hj h1 h2
    have e : j = i := by omega
    subst e
    refine outs_loop ?_
    simp only [c_slices_BinarySearch_int_int_L0_eq]
    simp only [abin_lss, if_true, bindO_some, Int.lt_irrefl, decide_false, condV, Bool.false_eq_true, if_false, loopK_exit]
    exact outs_q ⟨rfl, j, rfl, hj, h1, h2⟩
  | succ m ih =>
    intro i j hm hij hj h1 h2
    refine outs_loop ?_
    simp only [c_slices_BinarySearch_int_int_L0_eq]
    by_cases hlt : i < j
    · have hh : (i + j) / 2 < ids.length := by omega
      have eh : ids[(i + j) / 2]? = some ids[(i + j) / 2] := List.getElem?_eq_getElem hh
      have w1 : IntKind.i64.wrap ((i : Int) + (j : Int)) = ((i + j : Nat) : Int) := by rw [wrap_small (by omega) (by omega)]; omega
      have w2 : IntKind.u64.wrap ((i + j : Nat) : Int) = ((i + j : Nat) : Int) := wrap_u64 (by omega) (by omega)
      have w3 : abin .shr (.v (.int .u64 ((i + j : Nat) : Int))) (.v (.int .u64 1)) = some (.v (.int .u64 (((i + j) / 2 : Nat) : Int))) := by
        show (if (0 : Int) ≤ 1 ∧ (1 : Int) < IntKind.u64.bits then some (AV.v (.int .u64 ((((i + j : Nat) : Int)).fdiv (2 ^ (1 : Int).toNat)))) else none) = _
        rw [if_pos ⟨by omega, by decide⟩, show (2 : Int) ^ (1 : Int).toNat = 2 from rfl, Int.fdiv_eq_ediv_of_nonneg _ (by omega)]
        congr 3
      have w4 : IntKind.i64.wrap (((i + j) / 2 : Nat) : Int) = (((i + j) / 2 : Nat) : Int) := wrap_small (by omega) (by omega)
      have hlt' : ((i : Int) < (j : Int)) := by omega
      simp [hlt, hlt', w1, w2, w3, w4, intsA_get ids _ _ eh, u_Less, inc_nat (n := (i + j) / 2) (by omega), -Int.natCast_add, -Int.natCast_ediv]
      have mono : ∀ (k h : Nat) (u v : Int), k ≤ h → ids[k]? = some u → ids[h]? = some v → u ≤ v := by
        intro k h u v hkh hu hv
        rcases Nat.lt_or_ge k h with hk | hk
        · obtain ⟨hk1, rfl⟩ := List.getElem?_eq_some_iff.1 hu
          obtain ⟨hk2, rfl⟩ := List.getElem?_eq_some_iff.1 hv
          exact Int.le_of_lt (List.pairwise_iff_getElem.1 hs k h hk1 hk2 hk)
        · have : k = h := by omega
          subst this
          rw [hu] at hv
          cases hv
          exact Int.le_refl _
      refine outs_ite (fun hx => ?_) (fun hx => ?_)
      · refine ih ((i + j) / 2 + 1) j (by omega) (by omega) hj (fun k v hk hv => ?_) h2
        have := mono k ((i + j) / 2) v _ (by omega) hv eh
        omega
      · refine ih i ((i + j) / 2) (by omega) (by omega) (by omega) h1 (fun k v hk hv => ?_)
        have := mono ((i + j) / 2) k _ v hk eh hv
        omega
    · have e : j = i := by omega
      subst e
      simp only [abin_lss, if_true, bindO_some, Int.lt_irrefl, decide_false, condV, Bool.false_eq_true, if_false, loopK_exit]
      exact outs_q ⟨rfl, j, rfl, hj, h1, h2⟩

def BsR (ids : List Int) (x : Int) (b : AV) : Prop := ∃ p : Nat, b = .tup [.i p, .b (decide (x ∈ ids))]
theorem u_bs (ids : List Int) (x : Int) (hl : ids.length ≤ 1000) (hs : ids.Pairwise (· < ·)) : ∃ b, BsR ids x b ∧ retZ TT 49 [intsA ids, .i x] [] [0, 0] = some b := by
  refine outs_call (T := TT) extOk (f := 49) (fn := c_slices_BinarySearch_int_int) (args := [intsA ids, .i x]) (ob := []) (ks := [0, 0]) (P := BsR ids x) (by kernel_rfl) rfl (by simp) ?_
  show Outs (fun Q => wpU TT c_slices_BinarySearch_int_int_B ⟨[(0, intsA ids), (1, .i x)], [], 1⟩ Q) _
  simp only [c_slices_BinarySearch_int_int_B_eq]
  simp
  refine outs_bind (l_bs ids x hl hs ids.length 0 ids.length (by omega) (Nat.zero_le _) (Nat.le_refl _) (fun k v hk _ => absurd hk (Nat.not_lt_zero k)) (fun k v hk hv => by have := (List.getElem?_eq_some_iff.1 hv).1; omega)) ?_
  rintro e s ⟨rfl, p, rfl, hp, h1, h2⟩
  simp [c_slices_BinarySearch_int_int_R0_eq]
  by_cases hlt : p < ids.length
  · have ep : ids[p]? = some ids[p] := List.getElem?_eq_getElem hlt
    have hlt' : ((p : Int) < (ids.length : Int)) := by omega
    simp [hlt, hlt', intsA_get ids p _ ep, u_isNaN2, andA_if]
    have hmem : ids[p] = x ↔ x ∈ ids := by
      constructor
      · intro h; rw [← h]; exact List.getElem_mem _
      · intro h
        obtain ⟨k, hk, rfl⟩ := List.getElem_of_mem h
        rcases Nat.lt_trichotomy k p with hkp | hkp | hkp
        · have := h1 k _ hkp (List.getElem?_eq_getElem hk); omega
        · subst hkp; rfl
        · have a := h2 p _ (Nat.le_refl _) ep
          have b := List.pairwise_iff_getElem.1 hs p k hlt hk hkp
          omega
    refine outs_ite (fun hx => ?_) (fun hx => ?_)
    · exact outs_q ⟨.inr rfl, _, _, rfl, rfl, p, by rw [show decide (x ∈ ids) = true by simpa using hmem.1 hx]; rfl⟩
    · exact outs_q ⟨.inr rfl, _, _, rfl, rfl, p, by rw [show decide (x ∈ ids) = false by simpa using fun h => hx (hmem.2 h)]; rfl⟩
  · have hlt' : ¬ ((p : Int) < (ids.length : Int)) := by omega
    have hnot : ¬ x ∈ ids := by
      intro h
      obtain ⟨k, hk, rfl⟩ := List.getElem_of_mem h
      have := h1 k _ (by omega) (List.getElem?_eq_getElem hk)
      omega
    simp [hlt, hlt', andA_if]
    exact outs_q ⟨.inr rfl, _, _, rfl, rfl, p, by rw [show decide (x ∈ ids) = false by simpa using hnot]; rfl⟩
end Go.Fw
/-
  delta.find: a range over the open versions.
-/
namespace Go.Fw

def zeroV : Ver := ⟨0, 0, [], ⟨0, 0⟩, ⟨0, 0⟩, 0, 0⟩
def ob2 (v : Ver) (b : Bool) : Ob := [(7601, 2, .bx v.a), (7602, 3, .bx (.b b))]
def capsF (id : Int) : List AV := [.cptr (.i id), .ptr 7601 2 [] 0, .ptr 7602 3 [] 0]
def ob3 (v : Ver) (b : Bool) (id : Int) (s : Option Nat) : Ob := [(7601, 2, .bx v.a), (7602, 3, .bx (.b b)), (7603, 4, .lp 1000002 (capsF id) s)]

theorem u_opened (l : List Ver) : retZ TT 61 [versA l] [] [0] = some (.fn 62 [.cptr (versA l)]) := by
  refine retZ_of extOk (fn := c_delta_opened) (by kernel_rfl) rfl (by simp) ?_
  show wpU TT c_delta_opened_B ⟨[(0, versA l)], [], 1⟩ _
  rw [c_delta_opened_B_eq]
  simp only [retK_ret, AFun.result, c_delta_opened, rvAll, RV.ev]
  simp [frozen, AV.res_eq, AV.norm, AV.pureB]

def RoundR (v : Ver) (id : Int) (r : AV × Ob × Nat) : Prop := ∃ tk, r = (if v.id = id then (.i 1, ob2 v true, tk) else (.i 0, ob2 zeroV false, tk))
theorem u_round (v : Ver) (id : Int) (tk : Nat) : ∃ r, RoundR v id r ∧ retI TT 1000002 (v.a :: capsF id) (ob2 zeroV false) tk = some r := by
  refine outs_callI (T := TT) extOk (f := 1000002) (fn := c_delta_find_r0) (P := RoundR v id) (by kernel_rfl) rfl ?_
  show Outs (fun Q => wpU TT c_delta_find_r0_C ⟨[(0, v.a), (1, .cptr (.i id)), (2, .ptr 7601 2 [] 0), (3, .ptr 7602 3 [] 0)], ob2 zeroV false, tk⟩ Q) _
  simp only [c_delta_find_r0_C_eq]
  simp [ob2, newV, MO.run, finV, Ver.a, Per.a, storeV, AObj.setAt, AV.setAt, zeroV]
  refine outs_ite (fun hx => ?_) (fun hx => ?_)
  · exact outs_q ⟨.inl rfl, _, rfl, tk + 2 + 3, by rw [if_pos hx]; rfl⟩
  · exact outs_q ⟨.inl rfl, _, rfl, tk + 2, by rw [if_neg hx]; rfl⟩

theorem findV_take (id : Int) (l : List Ver) (n : Nat) (v : Ver) (h : l[n]? = some v) (hf : findV id (l.take n) = none) : findV id (l.take (n + 1)) = if isV id v = true then some v else none := by
  unfold findV at hf ⊢
  rw [List.take_add_one, h, List.find?_append, hf]
  simp only [Option.toList, Option.none_or, List.find?_cons, List.find?_nil]
  cases isV id v <;> rfl
theorem findV_some (id : Int) (l : List Ver) (n : Nat) (v : Ver) (h : findV id (l.take n) = some v) : findV id l = some v := by
  unfold findV at h ⊢
  rw [← List.take_append_drop n l, List.find?_append, h]
  rfl

def OpS (id : Int) (l : List Ver) (e : Ex) (s : St) : Prop :=
  (e = .exit 0 ∧ findV id l = none ∧ s.env = [] ∧ s.ob = ob3 zeroV false id none) ∨ (e = .ret ∧ ∃ v, findV id l = some v ∧ s.env = [] ∧ s.ob = ob3 v true id (some 0))
theorem l_opened (l : List Ver) (id : Int) (hl : l.length ≤ 1000) : ∀ (m n tk : Nat), n + m = l.length → findV id (l.take n) = none →
    Outs (fun Q => Holds TT (.loop c_delta_opened_1_L0 ⟨[(0, .yl 7603 4), (5, versA l), (6, .i l.length), (7, .i n)], ob3 zeroV false id none, tk⟩ Q)) (OpS id l)
  | 0, n, tk, hn, hf => by
    have hn' : n = l.length := by omega
    subst hn'
    rw [List.take_length] at hf
    refine outs_loop ?_
    simp only [c_delta_opened_1_L0_eq]
    simp
    exact outs_q (.inl ⟨rfl, hf, rfl, rfl⟩)
  | m + 1, n, tk, hn, hf => by
    have h1 : n < l.length := by omega
    have e1 : l[n]? = some l[n] := List.getElem?_eq_getElem h1
    have hsplit := findV_take id l n l[n] e1 hf
    have h1' : ((n : Int) < (l.length : Int)) := by omega
    refine outs_loop ?_
    simp only [c_delta_opened_1_L0_eq]
    obtain ⟨r, ⟨tk2, hr⟩, hcall⟩ := u_round l[n] id (tk + 4)
    unfold ob2 capsF at hcall
    by_cases ho : openB l[n] = true
    · by_cases hid : l[n].id = id
      · have hv : isV id l[n] = true := by simp [isV, ho, hid]
        rw [if_pos hv] at hsplit
        have hfin := findV_some id l (n + 1) _ hsplit
        rw [if_pos hid] at hr
        subst hr
        simp [h1, h1', versA_get l n _ e1, u_dopen, ho, ob3, capsF, newV, MO.run, finV, hcall, lpOf, ylOf, intOf, sOf, ob2]
        exact outs_q (.inr ⟨rfl, _, hfin, rfl, rfl⟩)
      · have hv : ¬ isV id l[n] = true := by simp [isV, hid]
        rw [if_neg hv] at hsplit
        rw [if_neg hid] at hr
        subst hr
        have ih := l_opened l id hl m (n + 1) tk2 (by omega) hsplit
        simp [h1, h1', versA_get l n _ e1, u_dopen, ho, ob3, capsF, newV, MO.run, finV, hcall, lpOf, ylOf, intOf, sOf, ob2, inc_nat (n := n) (by omega)]
        exact ih
    · have hv : ¬ isV id l[n] = true := by simp [isV, ho]
      rw [if_neg hv] at hsplit
      have ih := l_opened l id hl m (n + 1) (tk + 4) (by omega) hsplit
      simp [h1, h1', versA_get l n _ e1, u_dopen, ho, ob3, capsF, newV, MO.run, finV, inc_nat (n := n) (by omega)]
      exact ih

def OpR (id : Int) (l : List Ver) (r : AV × Ob × Nat) : Prop :=
  ∃ a tk, (findV id l = none ∧ r = (a, ob3 zeroV false id none, tk)) ∨ ∃ v, findV id l = some v ∧ r = (a, ob3 v true id (some 0), tk)
theorem u_openedCall (l : List Ver) (id : Int) (hl : l.length ≤ 1000) (tk : Nat) : ∃ r, OpR id l r ∧ retI TT 62 [.yl 7603 4, .cptr (versA l)] (ob3 zeroV false id none) tk = some r := by
  refine outs_callI (T := TT) extOk (f := 62) (fn := c_delta_opened_1) (P := OpR id l) (by kernel_rfl) rfl ?_
  show Outs (fun Q => wpU TT c_delta_opened_1_B ⟨[(0, .yl 7603 4), (1, .cptr (versA l))], ob3 zeroV false id none, tk⟩ Q) _
  simp only [c_delta_opened_1_B_eq]
  have hld : (loadV 1 false (.cptr (versA l))).run (ob3 zeroV false id none) = some (versA l) := by rfl
  simp only [hld, bindO_some, versA_len]
  refine outs_bind (l_opened l id hl l.length 0 tk (by omega) rfl) ?_
  rintro e s (⟨rfl, hf, h1, h2⟩ | ⟨rfl, v, hf, h1, h2⟩)
  · simp only [blkK_exit, if_true]
    exact outs_q ⟨.inl rfl, _, rfl, _, _, .inl ⟨hf, by rw [h2]⟩⟩
  · simp only [blkK_ret]
    exact outs_q ⟨.inr rfl, _, rfl, _, _, .inr ⟨v, hf, by rw [h2]⟩⟩

def verO (o : Option Ver) : Ver := o.getD zeroV
/-- delta.find. -/
theorem u_dfind (l : List Ver) (id : Int) (hl : l.length ≤ 1000) : retZ TT 76 [versA l, .i id] [] [0, 0] = some (.tup [(verO (findV id l)).a, .b (findV id l).isSome]) := by
  obtain ⟨b, rfl, h⟩ := outs_call (T := TT) extOk (f := 76) (fn := c_delta_find) (args := [versA l, .i id]) (ob := []) (ks := [0, 0]) (P := fun b => b = .tup [(verO (findV id l)).a, .b (findV id l).isSome]) (by kernel_rfl) rfl (by simp) (by
    show Outs (fun Q => wpU TT c_delta_find_B ⟨[(0, versA l), (1, .i id)], [], 1⟩ Q) _
    simp only [c_delta_find_B_eq]
    obtain ⟨r, ⟨a, tk2, hr⟩, hcall⟩ := u_openedCall l id hl 5
    unfold ob3 capsF at hcall
    have hz : zeroV.a = .agg [1, 1, 1, 2, 2, 1, 1] [.v (.int .i64 0), .v (.int .i64 0), .sl 3 [], .agg [1, 1] [.v (.int .i64 0), .v (.int .i64 0)], .agg [1, 1] [.v (.int .i64 0), .v (.int .i64 0)], .v (.int .i64 0), .v (.int .i64 0)] := rfl
    rw [hz] at hcall
    simp [newV, MO.run, u_opened, hcall]
    rcases hr with ⟨hf, rfl⟩ | ⟨v, hf, rfl⟩
    · simp [leftBy, ob3, leftK, c_delta_find_R0_eq, buildV, fillV, zeroV, Ver.a, Per.a, hf, rowA]
      exact outs_q ⟨.inr rfl, _, .tup [zeroV.a, .b false], rfl, frozen_tup rfl (by rfl), rfl⟩
    · simp [leftBy, ob3, leftK, exJ, hf]
      exact outs_q ⟨.inr rfl, _, .tup [v.a, .b true], rfl, frozen_tup rfl (by simp [AV.pureBs, AV.pureB]), rfl⟩)
  exact h
end Go.Fw
/-
  The errors of Apply.
-/
namespace Go.Fw

def comA (tx time : Int) : AV := .agg [1, 1, 1, 1, 1, 1, 1, 1, 1, 1] [.i tx, .i time, .i 0, .i 0, .sl 16 [], .sl 3 [], .sl 6 [], .sl 1 [], .sl 2 [], .sl 2 []]
@[simp] theorem comA_size (a b : Int) : (comA a b).size = 10 := rfl
@[simp] theorem comA_agg (a b : Int) : (comA a b).isAgg = true := rfl
@[simp] theorem comA_tx (a b : Int) : faddrV [1, 1, 1, 1, 1, 1, 1, 1, 1, 1] 0 (.cptr (comA a b)) = some (.cptr (.i a)) := rfl
@[simp] theorem comA_time (a b : Int) : faddrV [1, 1, 1, 1, 1, 1, 1, 1, 1, 1] 1 (.cptr (comA a b)) = some (.cptr (.i b)) := rfl
@[simp] theorem comA_pure (a b : Int) : (comA a b).pureB = true := rfl

/-- Is the order broken? -/
def badO (p : Option Int) (id : Int) : Bool :=
  match p with
  | some q => decide (id ≤ q)
  | none => false
def errI (l : List Ver) (time : Int) : Option Int → List Int → Int
  | _, [] => 0
  | p, id :: r => if badO p id = true then 9 else match findV id l with
    | none => 11
    | some v => if time ≤ v.system.lo then 6 else errI l time (some id) r
def prevI (ids : List Int) (n : Nat) : Option Int := if n = 0 then none else ids[n - 1]?
theorem prevI_succ {ids : List Int} {n : Nat} (h : n < ids.length) : prevI ids (n + 1) = some ids[n] := by
  unfold prevI
  rw [if_neg (by omega)]
  exact List.getElem?_eq_getElem h

def ErrS (x : Int) (env0 env1 : Env) (e : Ex) (s : St) : Prop := (x = 0 ∧ e = .exit 0 ∧ ∃ tk, s = ⟨env0, [], tk⟩) ∨ (x ≠ 0 ∧ e = .ret ∧ s.env = env1)

theorem l_applies0 (l : List Ver) (ids : List Int) (fs : List Fact) (tx time : Int) (hl : l.length ≤ 1000) (hi : ids.length ≤ 1000) : ∀ (m n tk : Nat), n + m = ids.length →
    Outs (fun Q => Holds TT (.loop c_delta_applies_L0 ⟨[(0, versA l), (1, intsA ids), (2, factsA fs), (7, .cptr (comA tx time)), (23, intsA ids), (24, .i ids.length), (25, .i n)], [], tk⟩ Q))
      (ErrS (errI l time (prevI ids n) (ids.drop n)) [(2, factsA fs)] [(8, .i (errI l time (prevI ids n) (ids.drop n)))])
  | 0, n, tk, hn => by
    have hn' : n = ids.length := by omega
    subst hn'
    refine outs_loop ?_
    simp only [c_delta_applies_L0_eq]
    simp [errI]
    exact outs_q (.inl ⟨rfl, rfl, tk, rfl⟩)
  | m + 1, n, tk, hn => by
    have h1 : n < ids.length := by omega
    have h1' : ((n : Int) < (ids.length : Int)) := by omega
    have e1 : ids[n]? = some ids[n] := List.getElem?_eq_getElem h1
    have ih := l_applies0 l ids fs tx time hl hi m (n + 1) (tk + 9) (by omega)
    rw [prevI_succ h1] at ih
    rw [List.drop_eq_getElem_cons h1]
    have hfind := u_dfind l ids[n] hl
    have hz : zeroV.a = .agg [1, 1, 1, 2, 2, 1, 1] [.v (.int .i64 0), .v (.int .i64 0), .sl 3 [], .agg [1, 1] [.v (.int .i64 0), .v (.int .i64 0)], .agg [1, 1] [.v (.int .i64 0), .v (.int .i64 0)], .v (.int .i64 0), .v (.int .i64 0)] := rfl
    refine outs_loop ?_
    simp only [c_delta_applies_L0_eq]
    rcases Nat.eq_zero_or_pos n with h0 | h0
    · subst h0
      have g0 : iaddrV 1 (intsA ids) (.i 0) = some (.cptr (.i ids[0])) := intsA_get ids 0 _ e1
      have hb : badO (prevI ids 0) ids[0] = false := rfl
      have w1 : IntKind.i64.wrap 1 = ((1 : Nat) : Int) := by rw [wrap_small (by omega) (by omega)]; rfl
      cases hf : findV ids[0] l with
      | none =>
        rw [hf] at hfind
        have he : errI l time (prevI ids 0) (ids[0] :: ids.drop (0 + 1)) = 11 := by simp [errI, hb, hf]
        rw [he]
        simp [h1, g0, andA_if, hfind, verO, hz, newV, MO.run, finV]
        exact outs_q (.inr ⟨by decide, rfl, rfl⟩)
      | some v =>
        rw [hf] at hfind
        by_cases ht : time ≤ v.system.lo
        · have he : errI l time (prevI ids 0) (ids[0] :: ids.drop (0 + 1)) = 6 := by simp [errI, hb, hf, ht]
          rw [he]
          simp [h1, g0, andA_if, hfind, verO, hz, newV, MO.run, finV, Ver.a, Per.a, ht]
          exact outs_q (.inr ⟨by decide, rfl, rfl⟩)
        · have he : errI l time (prevI ids 0) (ids[0] :: ids.drop (0 + 1)) = errI l time (some ids[0]) (ids.drop (0 + 1)) := by simp [errI, hb, hf, ht]
          rw [he]
          have ht' : ¬ time ≤ v.system.lo := ht
          generalize errI l time (some ids[0]) (ids.drop (0 + 1)) = E at ih ⊢
          simp [h1, g0, andA_if, hfind, verO, hz, newV, MO.run, finV, Ver.a, Per.a, ht', w1]
          exact ih
    · obtain ⟨k, rfl⟩ : ∃ k, n = k + 1 := ⟨n - 1, by omega⟩
      have hk : k < ids.length := by omega
      have ek : ids[k]? = some ids[k] := List.getElem?_eq_getElem hk
      have hw : IntKind.i64.wrap (((k + 1 : Nat) : Int) - 1) = (k : Int) := by
        rw [wrap_small (by omega) (by omega)]
        omega
      have hpos : (0 : Int) < ((k + 1 : Nat) : Int) := by omega
      have hb : badO (prevI ids (k + 1)) ids[k + 1] = decide (ids[k + 1] ≤ ids[k]) := by rw [prevI_succ hk]; rfl
      have w2 := inc_nat (n := k + 1) (by omega)
      by_cases hbad : ids[k + 1] ≤ ids[k]
      · have he : errI l time (prevI ids (k + 1)) (ids[k + 1] :: ids.drop (k + 1 + 1)) = 9 := by simp [errI, hb, hbad]
        rw [he]
        simp [h1, h1', hpos, intsA_get ids (k + 1) _ e1, intsA_get ids k _ ek, hw, hbad, -Int.natCast_add]
        exact outs_q (.inr ⟨by decide, rfl, rfl⟩)
      · cases hf : findV ids[k + 1] l with
        | none =>
          rw [hf] at hfind
          have he : errI l time (prevI ids (k + 1)) (ids[k + 1] :: ids.drop (k + 1 + 1)) = 11 := by simp [errI, hb, hbad, hf]
          rw [he]
          simp [h1, h1', hpos, intsA_get ids (k + 1) _ e1, intsA_get ids k _ ek, hw, hbad, hfind, verO, hz, newV, MO.run, finV, -Int.natCast_add]
          exact outs_q (.inr ⟨by decide, rfl, rfl⟩)
        | some v =>
          rw [hf] at hfind
          by_cases ht : time ≤ v.system.lo
          · have he : errI l time (prevI ids (k + 1)) (ids[k + 1] :: ids.drop (k + 1 + 1)) = 6 := by simp [errI, hb, hbad, hf, ht]
            rw [he]
            simp [h1, h1', hpos, intsA_get ids (k + 1) _ e1, intsA_get ids k _ ek, hw, hbad, hfind, verO, hz, newV, MO.run, finV, Ver.a, Per.a, ht, -Int.natCast_add]
            exact outs_q (.inr ⟨by decide, rfl, rfl⟩)
          · have he : errI l time (prevI ids (k + 1)) (ids[k + 1] :: ids.drop (k + 1 + 1)) = errI l time (some ids[k + 1]) (ids.drop (k + 1 + 1)) := by simp [errI, hb, hbad, hf, ht]
            rw [he]
            simp [h1, h1', hpos, intsA_get ids (k + 1) _ e1, intsA_get ids k _ ek, hw, hbad, hfind, verO, hz, newV, MO.run, finV, Ver.a, Per.a, ht, w2, -Int.natCast_add]
            exact ih

def errF (fs : List Fact) : Int := if fs.all (fun f => f.valid.ok) = true then 0 else 8
theorem l_applies1 (fs : List Fact) (hf : fs.length ≤ 1000) : ∀ (m n tk : Nat), n + m = fs.length →
    Outs (fun Q => Holds TT (.loop c_delta_applies_L1 ⟨[(56, factsA fs), (57, .i fs.length), (58, .i n)], [], tk⟩ Q)) (fun e s => (errF (fs.drop n) = 0 ∧ e = .exit 2 ∧ ∃ tk, s = ⟨[], [], tk⟩) ∨ (errF (fs.drop n) = 8 ∧ e = .ret ∧ s.env = [(8, .i 8)]))
  | 0, n, tk, hn => by
    have hn' : n = fs.length := by omega
    subst hn'
    refine outs_loop ?_
    simp only [c_delta_applies_L1_eq]
    simp
    exact outs_q (.inl ⟨by simp [errF], rfl, tk, rfl⟩)
  | m + 1, n, tk, hn => by
    have h1 : n < fs.length := by omega
    have h1' : ((n : Int) < (fs.length : Int)) := by omega
    have e1 : fs[n]? = some fs[n] := List.getElem?_eq_getElem h1
    have ih := l_applies1 fs hf m (n + 1) (tk + 4) (by omega)
    rw [List.drop_eq_getElem_cons h1]
    refine outs_loop ?_
    simp only [c_delta_applies_L1_eq]
    by_cases hv : fs[n].valid.ok = true
    · have he : errF (fs[n] :: fs.drop (n + 1)) = errF (fs.drop (n + 1)) := by unfold errF; rw [List.all_cons, hv, Bool.true_and]
      rw [he]
      simp only [abin_lss, h1', if_true, decide_true, bindO_some, condV, factsA_get fs n _ e1]
      simp [newV, MO.run, finV, Fact.a, u_pValid, hv, inc_nat (n := n) (by omega)]
      exact ih
    · have hv' : fs[n].valid.ok = false := by simpa using hv
      have he : errF (fs[n] :: fs.drop (n + 1)) = 8 := by unfold errF; rw [List.all_cons, hv', Bool.false_and]; rfl
      rw [he]
      simp only [abin_lss, h1', if_true, decide_true, bindO_some, condV, factsA_get fs n _ e1]
      simp [newV, MO.run, finV, Fact.a, u_pValid, hv']
      exact outs_q ⟨rfl, rfl⟩

/-- What Apply says of its arguments. -/
def errA (l : List Ver) (ids : List Int) (fs : List Fact) (time : Int) : Int :=
  if time < 0 ∨ 1099511627776 ≤ time then 6 else if errI l time none ids = 0 then errF fs else errI l time none ids
theorem errF_cases (fs : List Fact) : errF fs = 0 ∨ errF fs = 8 := by
  unfold errF
  split
  · exact .inl rfl
  · exact .inr rfl
theorem u_applies (l : List Ver) (ids : List Int) (fs : List Fact) (tx time : Int) (hl : l.length ≤ 1000) (hi : ids.length ≤ 1000) (hf : fs.length ≤ 1000) :
    retZ TT 48 [versA l, intsA ids, factsA fs, comA tx time] [] [0] = some (.i (errA l ids fs time)) := by
  obtain ⟨b, rfl, h⟩ := outs_call (T := TT) extOk (f := 48) (fn := c_delta_applies) (args := [versA l, intsA ids, factsA fs, comA tx time]) (ob := []) (ks := [0]) (P := fun b => b = .i (errA l ids fs time)) (by kernel_rfl) rfl (by simp) (by
    show Outs (fun Q => wpU TT c_delta_applies_B ⟨[(0, versA l), (1, intsA ids), (2, factsA fs), (3, comA tx time)], [], 1⟩ Q) _
    simp only [c_delta_applies_B_eq]
    have l0 : ∀ ob : Ob, (loadV 1 false (.cptr (.i time))).run ob = some (.i time) := fun _ => rfl
    have fa : faddrV [1, 1, 1, 1, 1, 1, 1, 1, 1, 1] 1 (.cptr (comA tx time)) = some (.cptr (.i time)) := rfl
    simp only [fa, l0, bindO_some, abin_lss, abin_geq, if_true]
    simp [orA_if]
    by_cases ht : time < 0 ∨ 1099511627776 ≤ time
    · have he : errA l ids fs time = 6 := by unfold errA; rw [if_pos ht]
      rw [he]
      simp [ht]
      exact outs_q ⟨.inr rfl, _, _, rfl, rfl, rfl⟩
    · have he : errA l ids fs time = if errI l time none ids = 0 then errF fs else errI l time none ids := by unfold errA; rw [if_neg ht]
      rw [he]
      simp [ht]
      refine outs_bind (l_applies0 l ids fs tx time hl hi ids.length 0 1 (by omega)) ?_
      rintro e s (⟨h0, rfl, tk, rfl⟩ | ⟨h0, rfl, h1⟩)
      · have h0' : errI l time none ids = 0 := h0
        simp [c_delta_applies_R1_eq, h0']
        refine outs_bind (l_applies1 fs hf fs.length 0 tk (by omega)) ?_
        rintro e s (⟨h2, rfl, tk, rfl⟩ | ⟨h2, rfl, h3⟩)
        · have h2' : errF fs = 0 := h2
          rw [h2']
          simp [c_delta_applies_R0_eq]
          exact outs_q ⟨.inr rfl, _, _, rfl, rfl, rfl⟩
        · have h2' : errF fs = 8 := h2
          rw [h2']
          obtain ⟨env, ob, tk⟩ := s
          simp only at h3
          subst h3
          simp
          exact outs_q ⟨.inr rfl, _, _, rfl, rfl, rfl⟩
      · have h0' : ¬ errI l time none ids = 0 := h0
        have h1' : s.env = [(8, .i (errI l time none ids))] := h1
        obtain ⟨env, ob, tk⟩ := s
        simp only at h1'
        subst h1'
        simp [h0']
        exact outs_q ⟨.inr rfl, _, _, rfl, rfl, rfl⟩)
  exact h

theorem sorted_of {l : List Ver} {time : Int} : ∀ {ids : List Int} {p : Option Int}, errI l time p ids = 0 → ids.Pairwise (· < ·) ∧ ∀ x ∈ ids, badO p x = false
  | [], _, _ => ⟨List.Pairwise.nil, by simp⟩
  | id :: r, p, h => by
    unfold errI at h
    split at h
    · cases h
    · rename_i hb
      split at h
      · cases h
      · split at h
        · cases h
        · obtain ⟨h1, h2⟩ := sorted_of h
          have h3 : ∀ x ∈ r, id < x := fun x hx => by
            have := h2 x hx
            unfold badO at this
            simp at this
            exact this
          refine ⟨List.pairwise_cons.2 ⟨h3, h1⟩, fun x hx => ?_⟩
          have hb' : badO p id = false := by simpa using hb
          rcases List.mem_cons.1 hx with rfl | hx
          · exact hb'
          · have := h3 x hx
            unfold badO at hb' ⊢
            cases p with
            | none => rfl
            | some q => simp at hb' ⊢; omega
end Go.Fw
/-
  delta.Apply.
-/
namespace Go.Fw

def closeV (ids : List Int) (tx time : Int) (v : Ver) : Ver := if v.id ∈ ids ∧ openB v = true then ⟨v.id, v.schema, v.row, v.valid, ⟨v.system.lo, time⟩, v.by', tx⟩ else v
def newVer (first schema tx time : Int) (i : Nat) (f : Fact) : Ver := ⟨IntKind.i64.wrap (first + i), schema, f.row, f.valid, ⟨time, 1099511627776⟩, tx, 0⟩
def newL (first schema tx time : Int) (fs : List Fact) : List Ver := fs.mapIdx (newVer first schema tx time)
def closeL (ids : List Int) (tx time : Int) (l : List Ver) : List Ver := l.map (closeV ids tx time)

theorem take_succ_map (l : List Ver) (n : Nat) (v : Ver) (h : l[n]? = some v) : (l.map Ver.a).take n ++ [v.a] = (l.map Ver.a).take (n + 1) := take_map_succ Ver.a l n v h

theorem l_dApply0 (l : List Ver) (ids : List Int) (fs : List Fact) (tx time first schema : Int) (hb : l.length ≤ 1000) (hr : ∀ v ∈ l, v.row.length ≤ 60) (hi : ids.length ≤ 1000) (hs : ids.Pairwise (· < ·)) : ∀ (m n tk g : Nat), n + m = l.length →
    Outs (fun Q => Holds TT (.loop c_delta_Apply_L0 ⟨[(1, intsA ids), (2, factsA fs), (4, .i first), (5, .i schema), (9, .cptr (comA tx time)), (15, .own 1901 g 9 0 n), (30, versA l), (31, .i l.length), (32, .i n)], [(1901, g, .arr 9 (((closeL ids tx time l).map Ver.a).take n))], tk⟩ Q))
      (fun e s => e = .exit 0 ∧ ∃ g, s.env = [(2, factsA fs), (4, .i first), (5, .i schema), (9, .cptr (comA tx time)), (15, .own 1901 g 9 0 l.length)] ∧ s.ob = [(1901, g, .arr 9 ((closeL ids tx time l).map Ver.a))])
  | 0, n, tk, g, hn => by
    have hn' : n = l.length := by omega
    subst hn'
    refine outs_loop ?_
    simp only [c_delta_Apply_L0_eq]
    simp
    exact outs_q ⟨rfl, g, rfl, by rw [List.take_of_length_le (by simp [closeL])]⟩
  | m + 1, n, tk, g, hn => by
    have h1 : n < l.length := by omega
    have h1' : ((n : Int) < (l.length : Int)) := by omega
    have e1 : l[n]? = some l[n] := List.getElem?_eq_getElem h1
    have hrow : l[n].row.length ≤ 60 := hr _ (List.getElem_mem _)
    have hlr : l[n].row.length ≤ 4398046511104 := by omega
    have hlim : n + 1 ≤ 1599289640401 := by omega
    have hlen : n ≤ (closeL ids tx time l).length := by simp [closeL]; omega
    have hc : (closeL ids tx time l)[n]? = some (closeV ids tx time l[n]) := by simp [closeL, e1]
    have hx := take_succ_map _ n _ hc
    obtain ⟨b, ⟨p, rfl⟩, hbs⟩ := u_bs ids l[n].id hi hs
    refine outs_loop ?_
    simp only [c_delta_Apply_L0_eq]
    by_cases hcl : l[n].id ∈ ids ∧ openB l[n] = true
    · have ih := l_dApply0 l ids fs tx time first schema hb hr hi hs m (n + 1) (tk + 4 + 9 + 6 + 5) (tk + 4 + 9 + 6 + 3) (by omega)
      rw [← hx] at ih
      have hv : (closeV ids tx time l[n]).a = .agg [1, 1, 1, 2, 2, 1, 1] [.i l[n].id, .i l[n].schema, .sl 3 (l[n].row.map Val.a), .agg [1, 1] [.i l[n].valid.lo, .i l[n].valid.hi], .agg [1, 1] [.i l[n].system.lo, .i time], .i l[n].by', .i tx] := by
        simp [closeV, hcl, Ver.a, Per.a, rowA]
      rw [hv] at ih
      have ho := u_dopen l[n]
      rw [hcl.2] at ho
      have hva : l[n].a = .agg [1, 1, 1, 2, 2, 1, 1] [.i l[n].id, .i l[n].schema, .sl 3 (l[n].row.map Val.a), .agg [1, 1] [.i l[n].valid.lo, .i l[n].valid.hi], .agg [1, 1] [.i l[n].system.lo, .i l[n].system.hi], .i l[n].by', .i l[n].til] := rfl
      rw [hva] at ho
      simp only [abin_lss, h1', if_true, decide_true, bindO_some, condV, versA_get l n _ e1, hva]
      simp [newV, MO.run, hbs, hcl.1, ho, andA_if, c_delta_Apply_U0, seen_store1, c_delta_Apply_R0_eq, c_delta_Apply_R1_eq, run_clone, hlr, bslV, fillV, appV, AV.appElems, AV.elems, MO.bind, hlim, hlen, inc_nat (n := n) (by omega), List.take_take]
      exact ih
    · have ih := l_dApply0 l ids fs tx time first schema hb hr hi hs m (n + 1) (tk + 4 + 6 + 5) (tk + 4 + 6 + 3) (by omega)
      rw [← hx] at ih
      have hva : l[n].a = .agg [1, 1, 1, 2, 2, 1, 1] [.i l[n].id, .i l[n].schema, .sl 3 (l[n].row.map Val.a), .agg [1, 1] [.i l[n].valid.lo, .i l[n].valid.hi], .agg [1, 1] [.i l[n].system.lo, .i l[n].system.hi], .i l[n].by', .i l[n].til] := rfl
      have hv : closeV ids tx time l[n] = l[n] := by simp only [closeV]; rw [if_neg hcl]
      rw [hv, hva] at ih
      have ho := u_dopen l[n]
      rw [hva] at ho
      simp only [abin_lss, h1', if_true, decide_true, bindO_some, condV, versA_get l n _ e1, hva]
      by_cases hin : l[n].id ∈ ids
      · have hop : openB l[n] = false := by
          cases hq : openB l[n]
          · rfl
          · exact absurd ⟨hin, hq⟩ hcl
        rw [hop] at ho
        simp [newV, MO.run, hbs, hin, ho, andA_if, c_delta_Apply_R0_eq, c_delta_Apply_R1_eq, run_clone, hlr, bslV, fillV, appV, AV.appElems, AV.elems, MO.bind, hlim, hlen, inc_nat (n := n) (by omega), List.take_take]
        exact ih
      · simp [newV, MO.run, hbs, hin, andA_if, c_delta_Apply_R0_eq, c_delta_Apply_R1_eq, run_clone, hlr, bslV, fillV, appV, AV.appElems, AV.elems, MO.bind, hlim, hlen, inc_nat (n := n) (by omega), List.take_take]
        exact ih
end Go.Fw
/-
  delta.Apply: the new versions, the result.
-/
namespace Go.Fw

theorem newL_len (first schema tx time : Int) (fs : List Fact) : (newL first schema tx time fs).length = fs.length := by simp [newL]
theorem newL_get (first schema tx time : Int) (fs : List Fact) (n : Nat) (h : n < fs.length) : (newL first schema tx time fs)[n]? = some (newVer first schema tx time n fs[n]) := by simp [newL, h]

theorem l_dApply1 (C : List AV) (fs : List Fact) (tx time first schema : Int) (hC : C.length ≤ 1000) (hf : fs.length ≤ 1000) (hr : ∀ v ∈ fs, v.row.length ≤ 60) : ∀ (m n tk g : Nat), n + m = fs.length →
    Outs (fun Q => Holds TT (.loop c_delta_Apply_L1 ⟨[(4, .i first), (5, .i schema), (9, .cptr (comA tx time)), (15, .own 1901 g 9 0 (C.length + n)), (65, factsA fs), (66, .i fs.length), (67, .i n)], [(1901, g, .arr 9 (C ++ ((newL first schema tx time fs).map Ver.a).take n))], tk⟩ Q))
      (fun e s => e = .exit 2 ∧ ∃ g, s.env = [(15, .own 1901 g 9 0 (C.length + fs.length))] ∧ s.ob = [(1901, g, .arr 9 (C ++ (newL first schema tx time fs).map Ver.a))])
  | 0, n, tk, g, hn => by
    have hn' : n = fs.length := by omega
    subst hn'
    refine outs_loop ?_
    simp only [c_delta_Apply_L1_eq]
    simp
    exact outs_q ⟨rfl, g, rfl, by rw [List.take_of_length_le (by simp [newL_len])]⟩
  | m + 1, n, tk, g, hn => by
    have h1 : n < fs.length := by omega
    have h1' : ((n : Int) < (fs.length : Int)) := by omega
    have e1 : fs[n]? = some fs[n] := List.getElem?_eq_getElem h1
    have hrow : fs[n].row.length ≤ 60 := hr _ (List.getElem_mem _)
    have hlr : fs[n].row.length ≤ 4398046511104 := by omega
    have hlim : C.length + n + 1 ≤ 1599289640401 := by omega
    have hx := take_succ_map _ n _ (newL_get first schema tx time fs n h1)
    have hlen : n ≤ (newL first schema tx time fs).length := by rw [newL_len]; omega
    have ih := l_dApply1 C fs tx time first schema hC hf hr m (n + 1) (tk + 6 + 20) (tk + 6 + 18) (by omega)
    rw [← hx] at ih
    have hv : (newVer first schema tx time n fs[n]).a = .agg [1, 1, 1, 2, 2, 1, 1] [.v (.int .i64 (IntKind.i64.wrap (first + n))), .i schema, .sl 3 (fs[n].row.map Val.a), fs[n].valid.a, .agg [1, 1] [.i time, .i 1099511627776], .i tx, .i 0] := by simp [newVer, Ver.a, Per.a, rowA]
    rw [hv] at ih
    have hrw : rowA fs[n].row = .sl 3 (fs[n].row.map Val.a) := rfl
    have hva : fs[n].a = .agg [1, 2] [.sl 3 (fs[n].row.map Val.a), fs[n].valid.a] := rfl
    have htk : List.take (C.length + n) (C ++ List.take n (List.map Ver.a (newL first schema tx time fs))) = C ++ List.take n (List.map Ver.a (newL first schema tx time fs)) := List.take_of_length_le (by simp; omega)
    have hle : C.length + n ≤ (C ++ List.take n (List.map Ver.a (newL first schema tx time fs))).length := by simp; omega
    refine outs_loop ?_
    simp only [c_delta_Apply_L1_eq]
    simp only [abin_lss, h1', if_true, decide_true, bindO_some, condV, factsA_get fs n _ e1, hva]
    have hmin : n ≤ min n (newL first schema tx time fs).length := by omega
    have hb1 : buildV [1, 1] [.v (.int .i64 0), .v (.int .i64 0)] [(0, .i time), (1, .v (.int .i64 1099511627776))] = some (.agg [1, 1] [.i time, .i 1099511627776]) := rfl
    have hb2 : buildV [1, 1, 1, 2, 2, 1, 1] [.v (.int .i64 0), .v (.int .i64 0), .sl 3 [], .agg [1, 1] [.v (.int .i64 0), .v (.int .i64 0)], .agg [1, 1] [.v (.int .i64 0), .v (.int .i64 0)], .v (.int .i64 0), .v (.int .i64 0)] [(0, .v (.int .i64 (IntKind.i64.wrap (first + n)))), (1, .i schema), (2, .sl 3 (fs[n].row.map Val.a)), (3, fs[n].valid.a), (4, .agg [1, 1] [.i time, .i 1099511627776]), (5, .i tx)] = some (.agg [1, 1, 1, 2, 2, 1, 1] [.v (.int .i64 (IntKind.i64.wrap (first + n))), .i schema, .sl 3 (fs[n].row.map Val.a), fs[n].valid.a, .agg [1, 1] [.i time, .i 1099511627776], .i tx, .i 0]) := rfl
    simp [newV, MO.run, run_clone, hlr, bslV, fillV, appV, AV.appElems, AV.elems, MO.bind, hlim, hle, inc_nat (n := n) (by omega), htk, hb1, hb2, hmin]
    exact ih

theorem frozen_own2 {ob : Ob} {k p g n : Nat} {xs : List AV} {x : Value} (hl : lk ob p = some (g, .arr k xs)) (hn : n = xs.length) (hp : AV.pureBs xs = true) : frozen ob [k, 0] (.tup [.own p g k 0 n, .v x]) = some (.tup [.sl k xs, .v x]) := by
  subst hn
  show (AV.ress ob 5 [.own p g k 0 xs.length, .v x]).map AV.tup = _
  rw [AV.ress_cons, AV.ress_cons, AV.res_eq, if_neg (by simp [AV.pureB])]
  rw [AV.res_succ]
  simp [hl, ress_pure hp]
  rfl

def applyL (l : List Ver) (ids : List Int) (fs : List Fact) (tx time first schema : Int) : List Ver := closeL ids tx time l ++ newL first schema tx time fs
/-- What Apply answers. -/
def applyR (l : List Ver) (ids : List Int) (fs : List Fact) (tx time first schema : Int) : AV :=
  if errA l ids fs time = 0 then .tup [versA (applyL l ids fs tx time first schema), .i 0] else .tup [versA [], .i (errA l ids fs time)]

theorem errI_of {l : List Ver} {ids : List Int} {fs : List Fact} {time : Int} (h : errA l ids fs time = 0) : errI l time none ids = 0 := by
  unfold errA at h
  split at h
  · cases h
  · split at h
    · assumption
    · exact h

theorem u_dApply (l : List Ver) (ids : List Int) (fs : List Fact) (tx time first schema : Int) (hl : l.length ≤ 1000) (hi : ids.length ≤ 1000) (hf : fs.length ≤ 1000) (hr : ∀ v ∈ l, v.row.length ≤ 60) (hrf : ∀ v ∈ fs, v.row.length ≤ 60) :
    retZ TT 19 [versA l, intsA ids, factsA fs, comA tx time, .i first, .i schema] [] [9, 0] = some (applyR l ids fs tx time first schema) := by
  obtain ⟨b, rfl, h⟩ := outs_call (T := TT) extOk (f := 19) (fn := c_delta_Apply) (args := [versA l, intsA ids, factsA fs, comA tx time, .i first, .i schema]) (ob := []) (ks := [9, 0]) (P := fun b => b = applyR l ids fs tx time first schema) (by kernel_rfl) rfl (by simp) (by
    show Outs (fun Q => wpU TT c_delta_Apply_B ⟨[(0, versA l), (1, intsA ids), (2, factsA fs), (3, comA tx time), (4, .i first), (5, .i schema)], [], 1⟩ Q) _
    simp only [c_delta_Apply_B_eq]
    have hap := u_applies l ids fs tx time hl hi hf
    by_cases he : errA l ids fs time = 0
    · rw [he] at hap
      have hs := (sorted_of (errI_of he)).1
      have hR : applyR l ids fs tx time first schema = .tup [versA (applyL l ids fs tx time first schema), .i 0] := by unfold applyR; rw [if_pos he]
      rw [hR]
      simp [hap, newV, MO.run]
      refine outs_bind (l_dApply0 l ids fs tx time first schema hl hr hi hs l.length 0 2 1 (by omega)) ?_
      rintro e s ⟨rfl, g, h1, h2⟩
      obtain ⟨env, ob, tk⟩ := s
      simp only at h1 h2
      subst h1 h2
      simp [blkK, seqK, wpU, boxed_eq, c_delta_Apply_R3_eq]
      have hC : ((closeL ids tx time l).map Ver.a).length = l.length := by simp [closeL]
      have hw := l_dApply1 ((closeL ids tx time l).map Ver.a) fs tx time first schema (by omega) hf hrf fs.length 0 tk g (by omega)
      rw [hC] at hw
      simp at hw
      refine outs_bind hw ?_
      rintro e s ⟨rfl, g, h1, h2⟩
      obtain ⟨env, ob, tk⟩ := s
      simp only at h1 h2
      subst h1 h2
      simp [blkK, seqK, wpU, boxed_eq, c_delta_Apply_R2_eq]
      refine outs_q ⟨.inr rfl, _, _, rfl, ?_, rfl⟩
      have := frozen_own2 (ob := [(1901, g, .arr 9 ((closeL ids tx time l).map Ver.a ++ (newL first schema tx time fs).map Ver.a))]) (k := 9) (p := 1901) (g := g) (n := l.length + fs.length) (xs := (applyL l ids fs tx time first schema).map Ver.a) (x := .int .i64 0) (by simp [applyL]) (by simp [applyL, closeL, newL]) (pureBs_map _ (fun v => Ver.a_pure _) _)
      exact this
    · have hR : applyR l ids fs tx time first schema = .tup [versA [], .i (errA l ids fs time)] := by unfold applyR; rw [if_neg he]
      rw [hR]
      simp [hap, he]
      exact outs_q ⟨.inr rfl, _, _, rfl, rfl, rfl⟩)
  exact h
end Go.Fw
/-
  ref32.Apply: the errors, the closing of one version.
-/
namespace Go.Fw

def ErrS2 (x : Int) (env0 : Env) (e : Ex) (s : St) : Prop := (x = 0 ∧ e = .exit 0 ∧ ∃ tk, s = ⟨env0, [], tk⟩) ∨ (x ≠ 0 ∧ e = .ret ∧ ∃ tk, s = ⟨[(12, .nil), (13, .i x)], [], tk⟩)

theorem l_rApply0 (l : List Ver) (ids : List Int) (fs : List Fact) (tx time first schema : Int) (hl : l.length ≤ 1000) (hi : ids.length ≤ 1000) : ∀ (m n tk : Nat), n + m = ids.length →
    Outs (fun Q => Holds TT (.loop c_ref32_Apply_L0 ⟨[(0, versA l), (1, intsA ids), (2, factsA fs), (4, .i first), (5, .i schema), (9, .cptr (comA tx time)), (14, .i n)], [], tk⟩ Q))
      (ErrS2 (errI l time (prevI ids n) (ids.drop n)) [(0, versA l), (1, intsA ids), (2, factsA fs), (4, .i first), (5, .i schema), (9, .cptr (comA tx time))])
  | 0, n, tk, hn => by
    have hn' : n = ids.length := by omega
    subst hn'
    refine outs_loop ?_
    simp only [c_ref32_Apply_L0_eq]
    simp [errI]
    exact outs_q (.inl ⟨rfl, rfl, tk, rfl⟩)
  | m + 1, n, tk, hn => by
    have h1 : n < ids.length := by omega
    have h1' : ((n : Int) < (ids.length : Int)) := by omega
    have e1 : ids[n]? = some ids[n] := List.getElem?_eq_getElem h1
    have ih := l_rApply0 l ids fs tx time first schema hl hi m (n + 1) tk (by omega)
    rw [prevI_succ h1] at ih
    rw [List.drop_eq_getElem_cons h1]
    obtain ⟨b, hb, hfind⟩ := u_rfind l ids[n] (by omega)
    refine outs_loop ?_
    simp only [c_ref32_Apply_L0_eq]
    rcases Nat.eq_zero_or_pos n with h0 | h0
    · subst h0
      have g0 : iaddrV 1 (intsA ids) (.i 0) = some (.cptr (.i ids[0])) := intsA_get ids 0 _ e1
      have hbd : badO (prevI ids 0) ids[0] = false := rfl
      have w1 : IntKind.i64.wrap 1 = ((1 : Nat) : Int) := by rw [wrap_small (by omega) (by omega)]; rfl
      rcases hb with ⟨rfl, hf⟩ | ⟨k, v, rfl, hk, hf⟩
      · have he : errI l time (prevI ids 0) (ids[0] :: ids.drop (0 + 1)) = 11 := by simp [errI, hbd, hf]
        rw [he]
        simp [h1, g0, andA_if, hfind]
        exact outs_q (.inr ⟨by decide, rfl, tk, rfl⟩)
      · have hk0 : ¬ ((k : Int) < 0) := by omega
        by_cases ht : time ≤ v.system.lo
        · have he : errI l time (prevI ids 0) (ids[0] :: ids.drop (0 + 1)) = 6 := by simp [errI, hbd, hf, ht]
          rw [he]
          simp [h1, g0, andA_if, hfind, hk0, versA_get l k _ hk]
          simp [Ver.a, Per.a, ht]
          exact outs_q (.inr ⟨by decide, rfl, tk, rfl⟩)
        · have he : errI l time (prevI ids 0) (ids[0] :: ids.drop (0 + 1)) = errI l time (some ids[0]) (ids.drop (0 + 1)) := by simp [errI, hbd, hf, ht]
          rw [he]
          generalize errI l time (some ids[0]) (ids.drop (0 + 1)) = E at ih ⊢
          simp [h1, g0, andA_if, hfind, hk0, versA_get l k _ hk]
          simp [Ver.a, Per.a, ht, w1]
          exact ih
    · obtain ⟨j, rfl⟩ : ∃ k, n = k + 1 := ⟨n - 1, by omega⟩
      have hk : j < ids.length := by omega
      have ek : ids[j]? = some ids[j] := List.getElem?_eq_getElem hk
      have hw : IntKind.i64.wrap (((j + 1 : Nat) : Int) - 1) = (j : Int) := by
        rw [wrap_small (by omega) (by omega)]
        omega
      have hpos : (0 : Int) < ((j + 1 : Nat) : Int) := by omega
      have hbd : badO (prevI ids (j + 1)) ids[j + 1] = decide (ids[j + 1] ≤ ids[j]) := by rw [prevI_succ hk]; rfl
      have w2 := inc_nat (n := j + 1) (by omega)
      by_cases hbad : ids[j + 1] ≤ ids[j]
      · have he : errI l time (prevI ids (j + 1)) (ids[j + 1] :: ids.drop (j + 1 + 1)) = 9 := by simp [errI, hbd, hbad]
        rw [he]
        simp [h1, h1', hpos, intsA_get ids (j + 1) _ e1, intsA_get ids j _ ek, hw, hbad, -Int.natCast_add]
        exact outs_q (.inr ⟨by decide, rfl, tk, rfl⟩)
      · rcases hb with ⟨rfl, hf⟩ | ⟨k, v, rfl, hk, hf⟩
        · have he : errI l time (prevI ids (j + 1)) (ids[j + 1] :: ids.drop (j + 1 + 1)) = 11 := by simp [errI, hbd, hbad, hf]
          rw [he]
          simp [h1, h1', hpos, intsA_get ids (j + 1) _ e1, intsA_get ids j _ ek, hw, hbad, hfind, -Int.natCast_add]
          exact outs_q (.inr ⟨by decide, rfl, tk, rfl⟩)
        · have hk0 : ¬ ((k : Int) < 0) := by omega
          by_cases ht : time ≤ v.system.lo
          · have he : errI l time (prevI ids (j + 1)) (ids[j + 1] :: ids.drop (j + 1 + 1)) = 6 := by simp [errI, hbd, hbad, hf, ht]
            rw [he]
            simp [h1, h1', hpos, intsA_get ids (j + 1) _ e1, intsA_get ids j _ ek, hw, hbad, hfind, hk0, versA_get l k _ hk, -Int.natCast_add]
            simp [Ver.a, Per.a, ht, -Int.natCast_add]
            exact outs_q (.inr ⟨by decide, rfl, tk, rfl⟩)
          · have he : errI l time (prevI ids (j + 1)) (ids[j + 1] :: ids.drop (j + 1 + 1)) = errI l time (some ids[j + 1]) (ids.drop (j + 1 + 1)) := by simp [errI, hbd, hbad, hf, ht]
            rw [he]
            simp [h1, h1', hpos, intsA_get ids (j + 1) _ e1, intsA_get ids j _ ek, hw, hbad, hfind, hk0, versA_get l k _ hk, -Int.natCast_add]
            simp [Ver.a, Per.a, ht, w2, -Int.natCast_add]
            exact ih

def OB2 (g gb : Nat) (xs : List AV) (v : Ver) : Ob := [(2001, g, .arr 9 xs), (2002, gb, .bx v.a)]

theorem closeV_id (ids : List Int) (tx time : Int) (v : Ver) : (closeV ids tx time v).id = v.id := by
  unfold closeV
  split <;> rfl

theorem l_rApply1 (l : List Ver) (ids : List Int) (fs : List Fact) (tx time first schema : Int) (k g gb : Nat) (xs : List AV) (hk : k < l.length) (hi : ids.length ≤ 1000) : ∀ (m n tk : Nat), n + m = ids.length →
    Outs (fun Q => Holds TT (.loop c_ref32_Apply_L1 ⟨[(0, versA l), (1, intsA ids), (2, factsA fs), (4, .i first), (5, .i schema), (9, .cptr (comA tx time)), (16, .own 2001 g 9 0 k), (17, .i k), (18, .ptr 2002 gb [] 0), (19, .i n)], OB2 g gb xs (closeV (ids.take n) tx time l[k]), tk⟩ Q))
      (fun e s => e = .exit 4 ∧ ∃ tk, s = ⟨[(0, versA l), (1, intsA ids), (2, factsA fs), (4, .i first), (5, .i schema), (9, .cptr (comA tx time)), (16, .own 2001 g 9 0 k), (17, .i k), (18, .ptr 2002 gb [] 0)], OB2 g gb xs (closeV ids tx time l[k]), tk⟩)
  | 0, n, tk, hn => by
    have hn' : n = ids.length := by omega
    subst hn'
    refine outs_loop ?_
    simp only [c_ref32_Apply_L1_eq]
    simp
    exact outs_q ⟨rfl, tk, rfl⟩
  | m + 1, n, tk, hn => by
    have h1 : n < ids.length := by omega
    have h1' : ((n : Int) < (ids.length : Int)) := by omega
    have e1 : ids[n]? = some ids[n] := List.getElem?_eq_getElem h1
    have ek : l[k]? = some l[k] := List.getElem?_eq_getElem hk
    have ho := u_Open l[k]
    refine outs_loop ?_
    simp only [c_ref32_Apply_L1_eq]
    cases hop : openB l[k] with
    | false =>
      rw [hop] at ho
      have hc : closeV (ids.take (n + 1)) tx time l[k] = closeV (ids.take n) tx time l[k] := by simp [closeV, hop]
      have ih := l_rApply1 l ids fs tx time first schema k g gb xs hk hi m (n + 1) tk (by omega)
      rw [hc] at ih
      simp [h1, versA_get l k _ ek, ho, andA_if, inc_nat (n := n) (by omega)]
      exact ih
    | true =>
      rw [hop] at ho
      have hid := closeV_id (ids.take n) tx time l[k]
      by_cases hq : ids[n] = l[k].id
      · have hc : closeV (ids.take (n + 1)) tx time l[k] = ⟨l[k].id, l[k].schema, l[k].row, l[k].valid, ⟨l[k].system.lo, time⟩, l[k].by', tx⟩ := by
          have : l[k].id ∈ ids.take (n + 1) := by rw [List.take_add_one, e1]; simp [hq]
          simp [closeV, hop, this]
        have ih := l_rApply1 l ids fs tx time first schema k g gb xs hk hi m (n + 1) (tk + 5 + 4) (by omega)
        rw [hc] at ih
        have hold : ∃ hi' til, (closeV (ids.take n) tx time l[k]) = ⟨l[k].id, l[k].schema, l[k].row, l[k].valid, ⟨l[k].system.lo, hi'⟩, l[k].by', til⟩ := by
          unfold closeV
          split
          · exact ⟨_, _, rfl⟩
          · exact ⟨_, _, rfl⟩
        obtain ⟨hi', til, hold⟩ := hold
        rw [hold]
        simp only [OB2, Ver.a, Per.a] at ih ⊢
        simp only [Ver.a, Per.a] at ho
        simp [h1, versA_get l k _ ek, Ver.a, Per.a, ho, andA_if, intsA_get ids n _ e1, hq, storeV, AObj.setAt, AV.setAt, inc_nat (n := n) (by omega), MO.run]
        exact ih
      · have hc : closeV (ids.take (n + 1)) tx time l[k] = closeV (ids.take n) tx time l[k] := by
          have : (l[k].id ∈ ids.take (n + 1)) = (l[k].id ∈ ids.take n) := by
            rw [List.take_add_one, e1, List.mem_append]
            simp only [Option.toList, List.mem_cons, List.not_mem_nil, or_false, eq_comm (a := l[k].id), hq]
          simp only [closeV, this]
        have ih := l_rApply1 l ids fs tx time first schema k g gb xs hk hi m (n + 1) tk (by omega)
        rw [hc] at ih
        have hold : ∃ hi' til, (closeV (ids.take n) tx time l[k]) = ⟨l[k].id, l[k].schema, l[k].row, l[k].valid, ⟨l[k].system.lo, hi'⟩, l[k].by', til⟩ := by
          unfold closeV
          split
          · exact ⟨_, _, rfl⟩
          · exact ⟨_, _, rfl⟩
        obtain ⟨hi', til, hold⟩ := hold
        rw [hold] at ih ⊢
        simp only [OB2, Ver.a, Per.a] at ih ⊢
        simp only [Ver.a, Per.a] at ho
        simp [h1, versA_get l k _ ek, Ver.a, Per.a, ho, andA_if, intsA_get ids n _ e1, hq, inc_nat (n := n) (by omega), MO.run]
        exact ih
end Go.Fw
/-
  ref32.Apply: all versions, the facts, the result.
-/
namespace Go.Fw

theorem closeL_len (ids : List Int) (tx time : Int) (l : List Ver) : (closeL ids tx time l).length = l.length := by simp [closeL]
theorem l_rApply2 (l : List Ver) (ids : List Int) (fs : List Fact) (tx time first schema : Int) (hl : l.length ≤ 1000) (hi : ids.length ≤ 1000) : ∀ (m n tk g : Nat), n + m = l.length →
    Outs (fun Q => Holds TT (.loop c_ref32_Apply_L2 ⟨[(0, versA l), (1, intsA ids), (2, factsA fs), (4, .i first), (5, .i schema), (9, .cptr (comA tx time)), (16, .own 2001 g 9 0 n), (17, .i n)], [(2001, g, .arr 9 (((closeL ids tx time l).map Ver.a).take n))], tk⟩ Q))
      (fun e s => e = .exit 2 ∧ ∃ g tk, s = ⟨[(2, factsA fs), (4, .i first), (5, .i schema), (9, .cptr (comA tx time)), (16, .own 2001 g 9 0 l.length)], [(2001, g, .arr 9 ((closeL ids tx time l).map Ver.a))], tk⟩)
  | 0, n, tk, g, hn => by
    have hn' : n = l.length := by omega
    subst hn'
    refine outs_loop ?_
    simp only [c_ref32_Apply_L2_eq]
    simp
    exact outs_q ⟨rfl, g, tk, by rw [List.take_of_length_le (by simp [closeL])]⟩
  | m + 1, n, tk, g, hn => by
    have h1 : n < l.length := by omega
    have e1 : l[n]? = some l[n] := List.getElem?_eq_getElem h1
    have hlim : n + 1 ≤ 1599289640401 := by omega
    have hlen : n ≤ (closeL ids tx time l).length := by simp [closeL]; omega
    have hc : (closeL ids tx time l)[n]? = some (closeV ids tx time l[n]) := by simp [closeL, e1]
    have hx := take_succ_map _ n _ hc
    have hmin : n ≤ min n (closeL ids tx time l).length := by omega
    refine outs_loop ?_
    simp only [c_ref32_Apply_L2_eq]
    have hc0 : closeV (ids.take 0) tx time l[n] = l[n] := by simp [closeV]
    have hw := l_rApply1 l ids fs tx time first schema n g (tk + 4) (((closeL ids tx time l).map Ver.a).take n) h1 hi ids.length 0 (tk + 6) (by omega)
    rw [hc0] at hw
    simp [h1, versA_get l n _ e1, newV, MO.run]
    simp only [OB2] at hw
    refine outs_bind hw ?_
    rintro e s ⟨rfl, tk', rfl⟩
    have ih := l_rApply2 l ids fs tx time first schema hl hi m (n + 1) (tk' + 5) (tk' + 3) (by omega)
    rw [← hx] at ih
    simp [c_ref32_Apply_R0_eq, c_ref32_Apply_R1_eq, bslV, fillV, appV, AV.appElems, AV.elems, MO.bind, MO.run, hlim, hlen, hmin, inc_nat (n := n) (by omega), List.take_take]
    exact ih

theorem l_rApply3 (C : List AV) (fs : List Fact) (tx time first schema : Int) (hC : C.length ≤ 1000) (hf : fs.length ≤ 1000) : ∀ (m n tk g : Nat), n + m = fs.length →
    Outs (fun Q => Holds TT (.loop c_ref32_Apply_L3 ⟨[(2, factsA fs), (4, .i first), (5, .i schema), (9, .cptr (comA tx time)), (16, .own 2001 g 9 0 (C.length + n)), (20, .i n)], [(2001, g, .arr 9 (C ++ ((newL first schema tx time fs).map Ver.a).take n))], tk⟩ Q))
      (fun e s => (errF (fs.drop n) = 0 ∧ e = .exit 6 ∧ ∃ g tk, s = ⟨[(16, .own 2001 g 9 0 (C.length + fs.length))], [(2001, g, .arr 9 (C ++ (newL first schema tx time fs).map Ver.a))], tk⟩) ∨ (errF (fs.drop n) = 8 ∧ e = .ret ∧ s.env = [(12, .nil), (13, .i 8)]))
  | 0, n, tk, g, hn => by
    have hn' : n = fs.length := by omega
    subst hn'
    refine outs_loop ?_
    simp only [c_ref32_Apply_L3_eq]
    simp
    exact outs_q (.inl ⟨by simp [errF], rfl, g, tk, by rw [List.take_of_length_le (by simp [newL_len])]⟩)
  | m + 1, n, tk, g, hn => by
    have h1 : n < fs.length := by omega
    have h1' : ((n : Int) < (fs.length : Int)) := by omega
    have e1 : fs[n]? = some fs[n] := List.getElem?_eq_getElem h1
    have hlim : C.length + n + 1 ≤ 1599289640401 := by omega
    have hx := take_succ_map _ n _ (newL_get first schema tx time fs n h1)
    have hlen : n ≤ (newL first schema tx time fs).length := by rw [newL_len]; omega
    have ih := l_rApply3 C fs tx time first schema hC hf m (n + 1) (tk + 24) (tk + 22) (by omega)
    rw [← hx] at ih
    have hv : (newVer first schema tx time n fs[n]).a = .agg [1, 1, 1, 2, 2, 1, 1] [.v (.int .i64 (IntKind.i64.wrap (first + n))), .i schema, .sl 3 (fs[n].row.map Val.a), fs[n].valid.a, .agg [1, 1] [.i time, .i 1099511627776], .i tx, .i 0] := by simp [newVer, Ver.a, Per.a, rowA]
    rw [hv] at ih
    have hva : fs[n].a = .agg [1, 2] [.sl 3 (fs[n].row.map Val.a), fs[n].valid.a] := rfl
    have htk : List.take (C.length + n) (C ++ List.take n (List.map Ver.a (newL first schema tx time fs))) = C ++ List.take n (List.map Ver.a (newL first schema tx time fs)) := List.take_of_length_le (by simp; omega)
    have hle : C.length + n ≤ (C ++ List.take n (List.map Ver.a (newL first schema tx time fs))).length := by simp; omega
    have hmin : n ≤ min n (newL first schema tx time fs).length := by omega
    have hb1 : buildV [1, 1] [.v (.int .i64 0), .v (.int .i64 0)] [(0, .i time), (1, .v (.int .i64 1099511627776))] = some (.agg [1, 1] [.i time, .i 1099511627776]) := rfl
    have hb2 : buildV [1, 1, 1, 2, 2, 1, 1] [.v (.int .i64 0), .v (.int .i64 0), .sl 3 [], .agg [1, 1] [.v (.int .i64 0), .v (.int .i64 0)], .agg [1, 1] [.v (.int .i64 0), .v (.int .i64 0)], .v (.int .i64 0), .v (.int .i64 0)] [(0, .v (.int .i64 (IntKind.i64.wrap (first + n)))), (1, .i schema), (2, .sl 3 (fs[n].row.map Val.a)), (3, fs[n].valid.a), (4, .agg [1, 1] [.i time, .i 1099511627776]), (5, .i tx)] = some (.agg [1, 1, 1, 2, 2, 1, 1] [.v (.int .i64 (IntKind.i64.wrap (first + n))), .i schema, .sl 3 (fs[n].row.map Val.a), fs[n].valid.a, .agg [1, 1] [.i time, .i 1099511627776], .i tx, .i 0]) := rfl
    have hok := u_Valid fs[n].valid
    rw [List.drop_eq_getElem_cons h1]
    refine outs_loop ?_
    simp only [c_ref32_Apply_L3_eq]
    by_cases hv : fs[n].valid.ok = true
    · have he : errF (fs[n] :: fs.drop (n + 1)) = errF (fs.drop (n + 1)) := by unfold errF; rw [List.all_cons, hv, Bool.true_and]
      rw [he]
      rw [hv] at hok
      simp [h1, h1', factsA_get fs n _ e1, hva, hok, bslV, fillV, appV, AV.appElems, AV.elems, MO.bind, MO.run, hlim, hle, inc_nat (n := n) (by omega), htk, hb1, hb2, hmin]
      exact ih
    · have hv' : fs[n].valid.ok = false := by simpa using hv
      have he : errF (fs[n] :: fs.drop (n + 1)) = 8 := by unfold errF; rw [List.all_cons, hv', Bool.false_and]; rfl
      rw [he]
      rw [hv'] at hok
      simp [h1, h1', factsA_get fs n _ e1, hva, hok]
      exact outs_q ⟨rfl, rfl⟩

theorem u_rApply (l : List Ver) (ids : List Int) (fs : List Fact) (tx time first schema : Int) (hl : l.length ≤ 1000) (hi : ids.length ≤ 1000) (hf : fs.length ≤ 1000) :
    retZ TT 20 [versA l, intsA ids, factsA fs, comA tx time, .i first, .i schema] [] [9, 0] = some (applyR l ids fs tx time first schema) := by
  obtain ⟨b, rfl, h⟩ := outs_call (T := TT) extOk (f := 20) (fn := c_ref32_Apply) (args := [versA l, intsA ids, factsA fs, comA tx time, .i first, .i schema]) (ob := []) (ks := [9, 0]) (P := fun b => b = applyR l ids fs tx time first schema) (by kernel_rfl) rfl (by simp) (by
    show Outs (fun Q => wpU TT c_ref32_Apply_B ⟨[(0, versA l), (1, intsA ids), (2, factsA fs), (3, comA tx time), (4, .i first), (5, .i schema)], [], 1⟩ Q) _
    simp only [c_ref32_Apply_B_eq]
    simp [orA_if]
    by_cases ht : time < 0 ∨ 1099511627776 ≤ time
    · have he : errA l ids fs time = 6 := by unfold errA; rw [if_pos ht]
      have hR : applyR l ids fs tx time first schema = .tup [versA [], .i 6] := by unfold applyR; rw [if_neg (by rw [he]; decide), he]
      rw [hR]
      simp [ht]
      exact outs_q ⟨.inr rfl, _, _, rfl, rfl, rfl⟩
    · have he : errA l ids fs time = if errI l time none ids = 0 then errF fs else errI l time none ids := by unfold errA; rw [if_neg ht]
      simp [ht]
      refine outs_bind (l_rApply0 l ids fs tx time first schema hl hi ids.length 0 1 (by omega)) ?_
      rintro e s (⟨h0, rfl, tk, rfl⟩ | ⟨h0, rfl, tk, rfl⟩)
      · have h0' : errI l time none ids = 0 := h0
        rw [if_pos h0'] at he
        simp [c_ref32_Apply_R4_eq, newV, MO.run]
        refine outs_bind (l_rApply2 l ids fs tx time first schema hl hi l.length 0 (tk + 1) tk (by omega)) ?_
        rintro e s ⟨rfl, g, tk, rfl⟩
        simp [c_ref32_Apply_R3_eq]
        have hC : ((closeL ids tx time l).map Ver.a).length = l.length := by simp [closeL]
        have hw := l_rApply3 ((closeL ids tx time l).map Ver.a) fs tx time first schema (by omega) hf fs.length 0 tk g (by omega)
        rw [hC] at hw
        simp at hw
        refine outs_bind hw ?_
        rintro e s (⟨h2, rfl, g, tk, rfl⟩ | ⟨h2, rfl, h3⟩)
        · have h2' : errF fs = 0 := h2
          have hR : applyR l ids fs tx time first schema = .tup [versA (applyL l ids fs tx time first schema), .i 0] := by unfold applyR; rw [if_pos (by rw [he, h2'])]
          rw [hR]
          simp [c_ref32_Apply_R2_eq]
          refine outs_q ⟨.inr rfl, _, _, rfl, ?_, rfl⟩
          have := frozen_own2 (ob := [(2001, g, .arr 9 ((closeL ids tx time l).map Ver.a ++ (newL first schema tx time fs).map Ver.a))]) (k := 9) (p := 2001) (g := g) (n := l.length + fs.length) (xs := (applyL l ids fs tx time first schema).map Ver.a) (x := .int .i64 0) (by simp [applyL]) (by simp [applyL, closeL, newL]) (pureBs_map _ (fun v => Ver.a_pure _) _)
          exact this
        · have h2' : errF fs = 8 := h2
          have hR : applyR l ids fs tx time first schema = .tup [versA [], .i 8] := by unfold applyR; rw [if_neg (by rw [he, h2']; decide), he, h2']
          rw [hR]
          obtain ⟨env, ob, tk⟩ := s
          simp only at h3
          subst h3
          simp
          exact outs_q ⟨.inr rfl, _, _, rfl, rfl, rfl⟩
      · have h0' : ¬ errI l time none ids = 0 := h0
        rw [if_neg h0'] at he
        have hR : applyR l ids fs tx time first schema = .tup [versA [], .i (errI l time none ids)] := by unfold applyR; rw [if_neg (by rw [he]; exact h0'), he]
        rw [hR]
        simp
        exact outs_q ⟨.inr rfl, _, _, rfl, rfl, rfl⟩)
  exact h
end Go.Fw
/-
  DeltaApplies yields true.
-/
namespace Go.Fw

def changeA (ids : List Int) (fs : List Fact) (time tx first schema : Int) : AV := .agg [1, 1, 1, 1, 1, 1] [intsA ids, factsA fs, .i time, .i tx, .i first, .i schema]
@[simp] theorem factsA_sz (l : List Fact) : (factsA l).size = 1 := rfl
@[simp] theorem factsA_ag (l : List Fact) : (factsA l).isAgg = false := rfl
@[simp] theorem intsA_sz (l : List Int) : (intsA l).size = 1 := rfl
@[simp] theorem intsA_ag (l : List Int) : (intsA l).isAgg = false := rfl
@[simp] theorem changeA_pure (ids : List Int) (fs : List Fact) (time tx first schema : Int) : (changeA ids fs time tx first schema).pureB = true := by simp [changeA]
theorem chg0 (ids : List Int) (fs : List Fact) (time tx first schema : Int) : faddrV [1, 1, 1, 1, 1, 1] 0 (.cptr (changeA ids fs time tx first schema)) = some (.cptr (intsA ids)) := rfl
theorem chg1 (ids : List Int) (fs : List Fact) (time tx first schema : Int) : faddrV [1, 1, 1, 1, 1, 1] 1 (.cptr (changeA ids fs time tx first schema)) = some (.cptr (factsA fs)) := rfl
theorem chg2 (ids : List Int) (fs : List Fact) (time tx first schema : Int) : faddrV [1, 1, 1, 1, 1, 1] 2 (.cptr (changeA ids fs time tx first schema)) = some (.cptr (.i time)) := rfl
theorem chg3 (ids : List Int) (fs : List Fact) (time tx first schema : Int) : faddrV [1, 1, 1, 1, 1, 1] 3 (.cptr (changeA ids fs time tx first schema)) = some (.cptr (.i tx)) := rfl
theorem chg4 (ids : List Int) (fs : List Fact) (time tx first schema : Int) : faddrV [1, 1, 1, 1, 1, 1] 4 (.cptr (changeA ids fs time tx first schema)) = some (.cptr (.i first)) := rfl
theorem chg5 (ids : List Int) (fs : List Fact) (time tx first schema : Int) : faddrV [1, 1, 1, 1, 1, 1] 5 (.cptr (changeA ids fs time tx first schema)) = some (.cptr (.i schema)) := rfl

theorem applyL_row {l : List Ver} {ids : List Int} {fs : List Fact} {tx time first schema : Int} (hr : ∀ v ∈ l, v.row.length ≤ 60) (hf : ∀ v ∈ fs, v.row.length ≤ 60) : ∀ v ∈ applyL l ids fs tx time first schema, v.row.length ≤ 60 := by
  intro v hv
  rcases List.mem_append.1 hv with hv | hv
  · obtain ⟨u, hu, h⟩ := List.mem_map.1 hv
    rw [← h]
    unfold closeV
    split
    · exact hr u hu
    · exact hr u hu
  · obtain ⟨n, hn, h⟩ := List.getElem_of_mem hv
    have hn' : n < fs.length := by rw [newL_len] at hn; exact hn
    have h2 := newL_get first schema tx time fs n hn'
    rw [List.getElem?_eq_getElem hn] at h2
    rw [← h, Option.some.inj h2]
    exact hf _ (List.getElem_mem _)
theorem applyR_same (l : List Ver) (ids : List Int) (fs : List Fact) (tx time first schema : Int) (hl : l.length ≤ 16) (hf : fs.length ≤ 16) (hr : ∀ v ∈ l, v.row.length ≤ 60) (hrf : ∀ v ∈ fs, v.row.length ≤ 60) :
    ∃ L e, applyR l ids fs tx time first schema = .tup [versA L, .i e] ∧ retZ TT 21 [versA L, versA L] [] [0] = some (.b true) := by
  unfold applyR
  split
  · refine ⟨_, _, rfl, u_SameVersions _ ?_ (applyL_row hr hrf)⟩
    simp [applyL, closeL, newL]
    omega
  · exact ⟨[], _, rfl, u_SameVersions _ (by simp) (by simp)⟩

theorem u_Few16 (l : List Fact) : ∃ b, retZ TT 12 [factsA l, .i 16] [] [0] = some (.b b) ∧ (b = true → l.length ≤ 16 ∧ ∀ f ∈ l, f.row.length ≤ 60) := by
  by_cases h : l.length < 4611686018427387904
  · obtain ⟨b, h1, h2⟩ := u_Few l h 16
    exact ⟨b, h1, fun hb => ⟨by have := (h2 hb).1; omega, (h2 hb).2⟩⟩
  · refine ⟨false, ?_, by simp⟩
    have h' : (16 : Int) < (l.length : Int) := by omega
    refine retZ_of extOk (fn := c_ref22_Few) (by kernel_rfl) rfl (by simp) ?_
    show wpU TT c_ref22_Few_B ⟨[(0, factsA l), (1, .i 16)], [], 1⟩ _
    rw [c_ref22_Few_B_eq]
    simp [h', AFun.result, c_ref22_Few, rvAll, RV.ev]

theorem u_DeltaApplies (l : List Ver) (ids : List Int) (fs : List Fact) (time tx first schema : Int) (hb : l.length ≤ 3518437208883) : retZ TT 18 [versA l, changeA ids fs time tx first schema] [] [0] = some (.b true) := by
  obtain ⟨b, hf, hs⟩ := u_few l hb
  obtain ⟨b2, hf2, hs2⟩ := u_Few16 fs
  obtain ⟨b3, hp⟩ := u_Plain l (by omega)
  refine retZ_of extOk (fn := c_law32_DeltaApplies) (by kernel_rfl) rfl (by simp) ?_
  show wpU TT c_law32_DeltaApplies_B ⟨[(0, versA l), (1, changeA ids fs time tx first schema)], [], 1⟩ _
  rw [c_law32_DeltaApplies_B_eq]
  cases b with
  | false => simp [hf, orA_if, c_law32_DeltaApplies_R3_eq, c_law32_DeltaApplies_R2_eq, c_law32_DeltaApplies_R1_eq, c_law32_DeltaApplies_R0_eq, awake_ok, AFun.result, c_law32_DeltaApplies, rvAll, RV.ev]
  | true =>
  obtain ⟨h16, h60⟩ := hs rfl
  cases b2 with
  | false => simp [hf, orA_if, chg1, hf2, c_law32_DeltaApplies_R3_eq, c_law32_DeltaApplies_R2_eq, c_law32_DeltaApplies_R1_eq, c_law32_DeltaApplies_R0_eq, awake_ok, AFun.result, c_law32_DeltaApplies, rvAll, RV.ev]
  | true =>
  obtain ⟨f16, f60⟩ := hs2 rfl
  rcases Nat.lt_or_ge 16 ids.length with hi | hi
  · have hi' : (16 : Int) < (ids.length : Int) := by omega
    simp [hf, orA_if, chg1, chg0, hf2, hi', c_law32_DeltaApplies_R3_eq, c_law32_DeltaApplies_R2_eq, c_law32_DeltaApplies_R1_eq, c_law32_DeltaApplies_R0_eq, awake_ok, AFun.result, c_law32_DeltaApplies, rvAll, RV.ev]
  · have hi' : ¬ (16 : Int) < (ids.length : Int) := by omega
    cases b3 with
    | false => simp [hf, orA_if, chg1, chg0, hf2, hi', hp, c_law32_DeltaApplies_R3_eq, c_law32_DeltaApplies_R2_eq, c_law32_DeltaApplies_R1_eq, c_law32_DeltaApplies_R0_eq, awake_ok, AFun.result, c_law32_DeltaApplies, rvAll, RV.ev]
    | true =>
    by_cases hF : first < 0
    · simp [hf, orA_if, chg1, chg0, chg4, hf2, hi', hp, hF, c_law32_DeltaApplies_R3_eq, c_law32_DeltaApplies_R2_eq, c_law32_DeltaApplies_R1_eq, c_law32_DeltaApplies_R0_eq, awake_ok, AFun.result, c_law32_DeltaApplies, rvAll, RV.ev]
    · by_cases hG : 1125899906842624 < first
      · simp [hf, orA_if, chg1, chg0, chg4, hf2, hi', hp, hF, hG, c_law32_DeltaApplies_R3_eq, c_law32_DeltaApplies_R2_eq, c_law32_DeltaApplies_R1_eq, c_law32_DeltaApplies_R0_eq, awake_ok, AFun.result, c_law32_DeltaApplies, rvAll, RV.ev]
      · have hcom : buildV [1, 1, 1, 1, 1, 1, 1, 1, 1, 1] [.v (.int .i64 0), .v (.int .i64 0), .v (.int .i64 0), .v (.int .i64 0), .sl 16 [], .sl 3 [], .sl 6 [], .sl 1 [], .sl 2 [], .sl 2 []] [(1, .i time), (0, .i tx)] = some (comA tx time) := rfl
        have hd := u_dApply l ids fs tx time first schema (by omega) (by omega) (by omega) h60 f60
        have hr := u_rApply l ids fs tx time first schema (by omega) (by omega) (by omega)
        obtain ⟨L, e, hR, hS⟩ := applyR_same l ids fs tx time first schema h16 (by omega) h60 f60
        rw [hR] at hd hr
        have hlo : ∀ ob : Ob, (loadV 10 true (.cptr (comA tx time))).run ob = some (comA tx time) := fun _ => rfl
        simp [hf, orA_if, chg1, chg0, chg4, chg2, chg3, chg5, hf2, hi', hp, hF, hG, c_law32_DeltaApplies_R3_eq, c_law32_DeltaApplies_R2_eq, c_law32_DeltaApplies_R1_eq, c_law32_DeltaApplies_R0_eq, hcom, newV, MO.run, finV, hlo, hd, hr, hS, awake_ok, AFun.result, c_law32_DeltaApplies, rvAll, RV.ev]
end Go.Fw
