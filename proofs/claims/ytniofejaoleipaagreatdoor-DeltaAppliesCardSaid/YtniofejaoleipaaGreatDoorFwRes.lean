import Derived.Test.YtniofejaoleipaaGreatDoorFwChk
import Derived.Test.YtniofejaoleipaaGreatDoorFwEff
/-
  References resolved; what goes over in a call.
-/
namespace Go.Fw
variable [YI]
section
variable {num : Nat → FuncId} {w : World} {F : Nat → Prop} {β β' : Beta} {ob : Ob}

omit [YI] in
mutual
/-- What holds no reference does not depend on where the objects lie. -/
theorem RC_pure : ∀ (a : AV) (cs : List Value), a.pureB = true → RC num w F β a cs → RC num w F β' a cs
  | .v x, cs, _, h => by unfold RC at h ⊢; exact h
  | .agg ss fs, cs, hp, h => by
    unfold RC at h ⊢
    exact RCf_pure ss fs cs (by simpa only [AV.pureB] using hp) h
  | .sl k xs, cs, hp, h => by
    unfold RC at h ⊢
    rcases h with h | ⟨a, cap, ds, h1, h2, h3, h4⟩
    · exact .inl h
    · exact .inr ⟨a, cap, ds, h1, h2, h3, RCk_pure k xs ds (by simpa only [AV.pureB] using hp) h4⟩
  | .tup _, cs, _, h => by unfold RC at h ⊢; exact h
  | .fn f caps, cs, hp, h => by
    unfold RC at h ⊢
    obtain ⟨vs, h1, h2, h3⟩ := h
    exact ⟨vs, h1, RCv_pure caps vs (by simpa only [AV.pureB] using hp) h2, h3⟩
  | .cptr x, cs, hp, h => by
    unfold RC at h ⊢
    obtain ⟨a, ds, h1, h2, h3⟩ := h
    exact ⟨a, ds, h1, h2, RC_pure x ds (by simpa only [AV.pureB] using hp) h3⟩
  | .ptr .., _, hp, _ => by simp [AV.pureB] at hp
  | .own .., _, hp, _ => by simp [AV.pureB] at hp
  | .mp .., _, hp, _ => by simp [AV.pureB] at hp
  | .yl .., _, hp, _ => by simp [AV.pureB] at hp
  | .nil, cs, _, h => by unfold RC at h ⊢; exact h
  | .e0, cs, _, h => by unfold RC at h ⊢; exact h
  | .und, _, hp, _ => by simp [AV.pureB] at hp
theorem RCf_pure : ∀ (ss : List Nat) (fs : List AV) (cs : List Value), AV.pureBs fs = true → RCf num w F β ss fs cs → RCf num w F β' ss fs cs
  | [], [], cs, _, h => by unfold RCf at h ⊢; exact h
  | n :: ss, f :: fs, cs, hp, h => by
    simp only [AV.pureBs, Bool.and_eq_true] at hp
    unfold RCf at h ⊢
    obtain ⟨c1, c2, h1, h2, h3, h4⟩ := h
    exact ⟨c1, c2, h1, h2, RC_pure f c1 hp.1 h3, RCf_pure ss fs c2 hp.2 h4⟩
  | [], _ :: _, _, _, h => by unfold RCf at h; exact h.elim
  | _ :: _, [], _, _, h => by unfold RCf at h; exact h.elim
theorem RCk_pure : ∀ (k : Nat) (xs : List AV) (cs : List Value), AV.pureBs xs = true → RCk num w F β k xs cs → RCk num w F β' k xs cs
  | k, [], cs, _, h => by unfold RCk at h ⊢; exact h
  | k, x :: xs, cs, hp, h => by
    simp only [AV.pureBs, Bool.and_eq_true] at hp
    unfold RCk at h ⊢
    obtain ⟨c1, c2, h1, h2, h3, h4⟩ := h
    exact ⟨c1, c2, h1, h2, RC_pure x c1 hp.1 h3, RCk_pure k xs c2 hp.2 h4⟩
theorem RCv_pure : ∀ (as : List AV) (vs : List Value), AV.pureBs as = true → RCv num w F β as vs → RCv num w F β' as vs
  | [], vs, _, h => by unfold RCv at h ⊢; exact h
  | .und :: as, vs, hp, h => by simp [AV.pureBs, AV.pureB] at hp
  | .tup bs :: as, vs, hp, h => by
    simp only [AV.pureBs, AV.pureB, Bool.and_eq_true] at hp
    unfold RCv at h ⊢
    obtain ⟨ts, r, h1, h2, h3⟩ := h
    exact ⟨ts, r, h1, RCv_pure bs _ hp.1 h2, RCv_pure as r hp.2 h3⟩
  | .v x :: as, vs, hp, h => by
    simp only [AV.pureBs, Bool.and_eq_true] at hp
    unfold RCv at h ⊢
    obtain ⟨v, r, cs, h1, h2, h3, h4⟩ := h
    exact ⟨v, r, cs, h1, h2, RC_pure (.v x) _ hp.1 h3, RCv_pure as r hp.2 h4⟩
  | .agg ss fs :: as, vs, hp, h => by
    simp only [AV.pureBs, Bool.and_eq_true] at hp
    unfold RCv at h ⊢
    obtain ⟨v, r, cs, h1, h2, h3, h4⟩ := h
    exact ⟨v, r, cs, h1, h2, RC_pure (.agg ss fs) _ hp.1 h3, RCv_pure as r hp.2 h4⟩
  | .sl k xs :: as, vs, hp, h => by
    simp only [AV.pureBs, Bool.and_eq_true] at hp
    unfold RCv at h ⊢
    obtain ⟨v, r, cs, h1, h2, h3, h4⟩ := h
    exact ⟨v, r, cs, h1, h2, RC_pure (.sl k xs) _ hp.1 h3, RCv_pure as r hp.2 h4⟩
  | .fn f caps :: as, vs, hp, h => by
    simp only [AV.pureBs, Bool.and_eq_true] at hp
    unfold RCv at h ⊢
    obtain ⟨v, r, cs, h1, h2, h3, h4⟩ := h
    exact ⟨v, r, cs, h1, h2, RC_pure (.fn f caps) _ hp.1 h3, RCv_pure as r hp.2 h4⟩
  | .cptr x :: as, vs, hp, h => by
    simp only [AV.pureBs, Bool.and_eq_true] at hp
    unfold RCv at h ⊢
    obtain ⟨v, r, cs, h1, h2, h3, h4⟩ := h
    exact ⟨v, r, cs, h1, h2, RC_pure (.cptr x) _ hp.1 h3, RCv_pure as r hp.2 h4⟩
  | .nil :: as, vs, hp, h => by
    simp only [AV.pureBs, Bool.and_eq_true] at hp
    unfold RCv at h ⊢
    obtain ⟨v, r, cs, h1, h2, h3, h4⟩ := h
    exact ⟨v, r, cs, h1, h2, RC_pure .nil _ hp.1 h3, RCv_pure as r hp.2 h4⟩
  | .e0 :: as, vs, hp, h => by
    simp only [AV.pureBs, Bool.and_eq_true] at hp
    unfold RCv at h ⊢
    obtain ⟨v, r, cs, h1, h2, h3, h4⟩ := h
    exact ⟨v, r, cs, h1, h2, RC_pure .e0 _ hp.1 h3, RCv_pure as r hp.2 h4⟩
  | .ptr .. :: _, _, hp, _ => by simp [AV.pureBs, AV.pureB] at hp
  | .own .. :: _, _, hp, _ => by simp [AV.pureBs, AV.pureB] at hp
  | .mp .. :: _, _, hp, _ => by simp [AV.pureBs, AV.pureB] at hp
  | .yl .. :: _, _, hp, _ => by simp [AV.pureBs, AV.pureB] at hp
end

omit [YI] in
theorem RX_pure {a : AV} {v : Value} (hp : a.pureB = true) (h : RX num w F β a v) : RX num w F β' a v := by
  have := (RCv_cons (as := []) (vs := [v])).2 ⟨v, [], rfl, h, by unfold RCv; rfl⟩
  have h2 := RCv_pure (β' := β') [a] [v] (by simp [AV.pureBs, hp]) this
  obtain ⟨u, r, h3, h4, _⟩ := RCv_cons.1 h2
  cases h3
  exact h4

/-- What is frozen when nothing of this is written any more. -/
def frzF (F : Nat → Prop) (β : Beta) (ob : Ob) : Nat → Prop := fun b => F b ∨ liveB β ob b
omit [YI] in
theorem later_frz : Later w F β w (frzF F β ob) β := ⟨fun _ h => .inl h, fun _ _ => rfl, fun _ _ h => h, fun _ _ _ h => h⟩

omit [YI] in
theorem pureBs_mem : ∀ {as : List AV} {a : AV}, AV.pureBs as = true → a ∈ as → a.pureB = true
  | b :: as, a, h, hm => by
    simp only [AV.pureBs, Bool.and_eq_true] at h
    rcases List.mem_cons.1 hm with rfl | hm
    · exact h.1
    · exact pureBs_mem h.2 hm

theorem own_frz {p g k off n : Nat} {xs ys : List AV} {cs : List Value} (hi : Inv num w F β ob) (hl : lk ob p = some (g, .arr k xs)) (hlen : off + n ≤ xs.length) (h : RC num w F β (.own p g k off n) cs)
    (hys : ∀ ds, RCk num w F β k ((xs.drop off).take n) ds → RCk num w (frzF F β ob) β' k ys ds) (hn : ys.length = n) : RC num w (frzF F β ob) β' (.sl k ys) cs := by
  unfold RC at h ⊢
  rcases h with ⟨y, hy, rfl, rfl⟩ | ⟨blk, cap, m, hbk, rfl, hcap, hmax, hsz, hfit⟩
  · have : ys = [] := List.eq_nil_of_length_eq_zero hn
    subst this
    cases y with
    | none => exact .inl ⟨rfl, rfl⟩
    | some a => exact .inr ⟨a, 0, [], rfl, Nat.le_refl _, ⟨fun _ => hy a rfl, fun h => (h rfl).elim, by simp⟩, by unfold RCk; rfl⟩
  · obtain ⟨x, hx, ho⟩ := hi.rep p g _ hl
    rw [hbk] at hx
    cases hx
    unfold ORep at ho
    obtain ⟨c, e, cs, rest, hh, hr, hcs⟩ := ho
    obtain ⟨c1, c2, rfl, h1, h2, h3⟩ := RCk_take _ xs cs off hr
    obtain ⟨d1, d2, rfl, h4, h5, h6⟩ := RCk_take _ (xs.drop off) c2 n h3
    refine .inr ⟨⟨blk, off * k, none⟩, cap, d1, by rw [hn], by omega, ⟨fun _ => rfl, fun _ => .inr ⟨p, g, _, hl, hbk⟩, fun j u hj => ?_⟩, hys d1 h5⟩
    rw [add_plain rfl, cell_row hh, hcs]
    have hlt : j < d1.length := (List.getElem?_eq_some_iff.1 hj).1
    have ho : c1.length = off * k := by rw [h1, Nat.min_eq_left (by omega)]
    show (c1 ++ (d1 ++ d2) ++ rest)[off * k + j]? = some u
    rw [List.append_assoc, List.getElem?_append_right (by omega), List.append_assoc, List.getElem?_append_left (by omega), ← hj]
    congr 1
    omega

omit [YI] in
theorem ress_len : ∀ {d : Nat} {as bs : List AV}, AV.ress ob d as = some bs → bs.length = as.length
  | d, [], bs, h => by rw [AV.ress_nil] at h; cases h; rfl
  | d, a :: as, bs, h => by
    rw [AV.ress_cons] at h
    split at h
    · rename_i x xs h1 h2
      cases h
      simp [ress_len h2]
    · cases h

omit [YI] in
theorem ressf_run {d : Nat} (hres : ∀ a b cs, AV.res ob d a = some b → RC num w F β a cs → RC num w (frzF F β ob) β' b cs) : ∀ (ss : List Nat) (fs gs : List AV) (cs : List Value), AV.ress ob d fs = some gs → RCf num w F β ss fs cs → RCf num w (frzF F β ob) β' ss gs cs
  | [], [], gs, cs, h, hr => by rw [AV.ress_nil] at h; cases h; unfold RCf at hr ⊢; exact hr
  | n :: ss, f :: fs, gs, cs, h, hr => by
    rw [AV.ress_cons] at h
    split at h
    · rename_i x xs h1 h2
      cases h
      unfold RCf at hr ⊢
      obtain ⟨c1, c2, k1, k2, k3, k4⟩ := hr
      exact ⟨c1, c2, k1, k2, hres _ _ _ h1 k3, ressf_run hres ss fs xs c2 h2 k4⟩
    · cases h
  | [], _ :: _, _, _, _, h => by unfold RCf at h; exact h.elim
  | _ :: _, [], _, _, _, h => by unfold RCf at h; exact h.elim
omit [YI] in
theorem ressk_run {d : Nat} (hres : ∀ a b cs, AV.res ob d a = some b → RC num w F β a cs → RC num w (frzF F β ob) β' b cs) (k : Nat) : ∀ (fs gs : List AV) (cs : List Value), AV.ress ob d fs = some gs → RCk num w F β k fs cs → RCk num w (frzF F β ob) β' k gs cs
  | [], gs, cs, h, hr => by rw [AV.ress_nil] at h; cases h; unfold RCk at hr ⊢; exact hr
  | f :: fs, gs, cs, h, hr => by
    rw [AV.ress_cons] at h
    split at h
    · rename_i x xs h1 h2
      cases h
      unfold RCk at hr ⊢
      obtain ⟨c1, c2, k1, k2, k3, k4⟩ := hr
      exact ⟨c1, c2, k1, k2, hres _ _ _ h1 k3, ressk_run hres k fs xs c2 h2 k4⟩
    · cases h

theorem res_run (hi : Inv num w F β ob) : ∀ (d : Nat) (a b : AV) (cs : List Value), AV.res ob d a = some b → RC num w F β a cs → RC num w (frzF F β ob) β' b cs := by
  intro d
  induction d with
  | zero =>
    intro a b cs h hr
    rw [AV.res_eq] at h
    split at h
    · rename_i hp
      cases h
      exact RC_pure a cs hp (RC.later later_frz _ _ hr)
    · cases h
  | succ d ih =>
    intro a b cs h hr
    rw [AV.res_eq] at h
    split at h
    · rename_i hp
      cases h
      exact RC_pure a cs hp (RC.later later_frz _ _ hr)
    · rw [AV.res_succ] at h
      split at h
      · rename_i p g k' off n
        split at h
        · rename_i g' k xs hl
          split at h
          · rename_i hc
            obtain ⟨rfl, rfl, hlen⟩ := hc
            obtain ⟨ys, hys, rfl⟩ := Option.map_eq_some_iff.1 h
            exact own_frz hi hl hlen hr (fun ds hd => ressk_run ih _ _ _ _ hys hd) (by rw [ress_len hys]; simp; omega)
          · cases h
        · cases h
      · rename_i ss fs
        obtain ⟨gs, hgs, rfl⟩ := Option.map_eq_some_iff.1 h
        unfold RC at hr ⊢
        exact ressf_run ih _ _ _ cs hgs hr
      · rename_i k xs
        obtain ⟨ys, hys, rfl⟩ := Option.map_eq_some_iff.1 h
        unfold RC at hr ⊢
        rcases hr with ⟨h1, rfl⟩ | ⟨a, cap, ds, h1, h2, h3, h4⟩
        · have : ys = [] := by have := ress_len hys; simpa using this
          exact .inl ⟨h1, this⟩
        · exact .inr ⟨a, cap, ds, by rw [ress_len hys]; exact h1, by rw [ress_len hys]; exact h2, h3.later later_frz, ressk_run ih _ _ _ ds hys h4⟩
      · obtain ⟨ys, hys, rfl⟩ := Option.map_eq_some_iff.1 h
        unfold RC at hr ⊢
        exact hr
      · cases h

omit [YI] in
theorem res_agg {d : Nat} {a b : AV} (h : AV.res ob d a = some b) : b.isAgg = a.isAgg ∧ a ≠ .und ∧ ((∃ as, a = .tup as) ↔ ∃ bs, b = .tup bs) ∧ b ≠ .und := by
  rw [AV.res_eq] at h
  split at h
  · rename_i hp
    cases h
    refine ⟨rfl, ?_, Iff.rfl, ?_⟩ <;> (rintro rfl; simp [AV.pureB] at hp)
  · cases d with
    | zero => cases h
    | succ d =>
      rw [AV.res_succ] at h
      split at h
      · split at h
        · split at h
          · obtain ⟨ys, _, rfl⟩ := Option.map_eq_some_iff.1 h; simp [AV.isAgg]
          · cases h
        · cases h
      · obtain ⟨ys, _, rfl⟩ := Option.map_eq_some_iff.1 h; simp [AV.isAgg]
      · obtain ⟨ys, _, rfl⟩ := Option.map_eq_some_iff.1 h; simp [AV.isAgg]
      · obtain ⟨ys, _, rfl⟩ := Option.map_eq_some_iff.1 h; simp [AV.isAgg]
      · cases h

omit [YI] in
theorem resv_run {d : Nat} (hres : ∀ a b v, AV.res ob d a = some b → RX num w F β a v → RX num w (frzF F β ob) β' b v) : ∀ (fs gs : List AV) (vs : List Value), AV.ress ob d fs = some gs → RCv num w F β fs vs → RCv num w (frzF F β ob) β' gs vs
  | [], gs, vs, h, hr => by rw [AV.ress_nil] at h; cases h; unfold RCv at hr ⊢; exact hr
  | f :: fs, gs, vs, h, hr => by
    rw [AV.ress_cons] at h
    split at h
    · rename_i x xs h1 h2
      cases h
      obtain ⟨v, r, k1, k2, k3⟩ := RCv_cons.1 hr
      exact RCv_cons.2 ⟨v, r, k1, hres _ _ _ h1 k2, resv_run hres fs xs r h2 k3⟩
    · cases h

theorem resX_run (hi : Inv num w F β ob) : ∀ (d : Nat) (a b : AV) (v : Value), AV.res ob d a = some b → RX num w F β a v → RX num w (frzF F β ob) β' b v := by
  intro d
  induction d with
  | zero =>
    intro a b v h hr
    rw [AV.res_eq] at h
    split at h
    · rename_i hp; cases h; exact RX_pure hp (hr.later later_frz)
    · cases h
  | succ d ih =>
    intro a b v h hr
    by_cases ht : ∃ as, a = .tup as
    · obtain ⟨as, rfl⟩ := ht
      rw [AV.res_eq] at h
      split at h
      · rename_i hp; cases h; exact RX_pure hp (hr.later later_frz)
      · rw [AV.res_succ] at h
        dsimp only at h
        obtain ⟨ys, hys, rfl⟩ := Option.map_eq_some_iff.1 h
        obtain ⟨vs, rfl, h2⟩ := hr
        exact ⟨vs, rfl, resv_run ih as ys _ hys h2⟩
    · obtain ⟨g1, g2, g3, g4⟩ := res_agg h
      obtain ⟨cs, h1, h2⟩ := hr.one g2 (fun vs e => ht ⟨vs, e⟩)
      have hc := res_run (β' := β') hi _ a b _ h h2
      have hb : ∃ cs : Array Value, (v = .agg cs ∧ b.isAgg = true ∨ cs = #[v] ∧ b.isAgg = false) ∧ RC num w (frzF F β ob) β' b cs.toList := ⟨cs, by rw [g1]; exact h1, hc⟩
      unfold RX
      cases b with
      | und => exact (g4 rfl).elim
      | tup bs => exact (ht (g3.2 ⟨bs, rfl⟩)).elim
      | _ => exact hb

omit [YI] in
theorem norm_run {k : Nat} {a : AV} {v : Value} (h : RX num w F β a v) : RX num w F β (a.norm k) v := by
  unfold AV.norm
  split
  · rw [h.nil_inv]
    exact RX.of_single (by unfold RC; exact .inl ⟨rfl, rfl⟩) rfl
  · obtain ⟨a, h1, rfl⟩ := h.e0_inv
    exact RX.of_single (by unfold RC; exact .inr ⟨a, 0, [], rfl, Nat.le_refl _, ⟨fun _ => h1, fun h => (h rfl).elim, by simp⟩, by unfold RCk; rfl⟩) rfl
  · exact h
omit [YI] in
theorem normAll_run : ∀ (ks : List Nat) (as : List AV) (vs : List Value), RCv num w F β as vs → RCv num w F β (normAll ks as) vs
  | [], as, vs, h => by unfold normAll; exact h
  | k :: ks, [], vs, h => by unfold normAll; exact h
  | k :: ks, a :: as, vs, h => by
    unfold normAll
    obtain ⟨v, r, h1, h2, h3⟩ := RCv_cons.1 h
    exact RCv_cons.2 ⟨v, r, h1, norm_run h2, normAll_run ks as r h3⟩

theorem frozen_run (hi : Inv num w F β ob) {ks : List Nat} {a b : AV} {v : Value} (h : frozen ob ks a = some b) (hr : RX num w F β a v) : RX num w (frzF F β ob) β' b v := by
  unfold frozen at h
  split at h
  · rename_i as
    obtain ⟨ys, hys, rfl⟩ := Option.map_eq_some_iff.1 h
    obtain ⟨vs, rfl, h2⟩ := hr
    exact ⟨vs, rfl, resv_run (resX_run hi 5) _ ys _ hys (normAll_run ks as _ h2)⟩
  · exact resX_run hi 5 _ b v h (norm_run hr)

/-- A fresh slice: its block, if there is one, stays open. -/
theorem fresh_run (hi : Inv num w F β ob) {k : Nat} {a : AV} {xs : List AV} {v : Value} (h : fresh ob k a = some xs) (hr : RX num w F β a v) :
    (xs = [] ∧ ∃ y : Option Addr, (∀ a, y = some a → a.spot = none) ∧ v = .slice y 0 0) ∨
    ∃ p g o blk cap m, lk ob p = some (g, o) ∧ β p g = some (some blk) ∧ v = .slice (some ⟨blk, 0, none⟩) xs.length cap ∧ xs.length ≤ cap ∧ cap ≤ maxLen ∧ blkSize w blk = some m ∧ cap * k ≤ m ∧
      ∀ β'' : Beta, ORep num w (frzF F β (rm ob p)) β'' (some blk) (.arr k xs) := by
  unfold fresh at h
  split at h
  · cases h; exact .inl ⟨rfl, none, by simp, hr.nil_inv⟩
  · cases h
    obtain ⟨a, h1, h2⟩ := hr.e0_inv
    exact .inl ⟨rfl, some a, by rintro _ ⟨⟩; exact h1, h2⟩
  · rename_i p g k1 n
    split at h
    · rename_i g' k' ys hl
      split at h
      · rename_i hc
        obtain ⟨rfl, rfl, rfl, hn⟩ := hc
        have hlen := ress_len h
        simp only [List.length_take] at hlen
        rcases hr.own_inv with ⟨y, hy, h1, rfl⟩ | ⟨blk, cap, m, hbk, h1, hcap, hmax, hsz, hfit⟩
        · left
          refine ⟨?_, y, hy, h1⟩
          have : xs.length = 0 := by omega
          exact List.eq_nil_of_length_eq_zero this
        · right
          have hxn : xs.length = n := by omega
          refine ⟨p, g, _, blk, cap, m, hl, hbk, by rw [hxn]; simpa using h1, by omega, hmax, hsz, by simpa using hfit, fun β'' => ?_⟩
          obtain ⟨x, hx, ho⟩ := hi.rep p g _ hl
          rw [hbk] at hx
          cases hx
          unfold ORep at ho ⊢
          obtain ⟨c, e, cs, rest, hh, hrk, hcs⟩ := ho
          obtain ⟨c1, c2, rfl, h1, h2, h3⟩ := RCk_take _ ys cs n hrk
          have hless : Inv num w F β (rm ob p) := hi.fewer fun q x hq => by
            rw [lk_rm] at hq
            split at hq
            · cases hq
            · exact hq
          exact ⟨c, e, c1, c2 ++ rest, hh, ressk_run (res_run hless 4) _ _ _ _ h h2, by rw [hcs]; simp⟩
      · cases h
    · cases h
  · cases h
end
end Go.Fw
