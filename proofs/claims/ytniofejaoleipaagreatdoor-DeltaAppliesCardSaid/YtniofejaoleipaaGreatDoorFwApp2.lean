import Derived.Test.YtniofejaoleipaaGreatDoorFwApp
/-
  append, and the only store into a variable: what they come to.
-/
namespace Go.Fw
variable [YI]
section
variable {P : Program} {num : Nat → FuncId} {w : World} {F : Nat → Prop} {β : Beta} {ob : Ob} {tg : Nat}

omit [YI] in
theorem RCk_append (k : Nat) : ∀ (xs ys : List AV) (cs ds : List Value), RCk num w F β k xs cs → RCk num w F β k ys ds → RCk num w F β k (xs ++ ys) (cs ++ ds)
  | [], ys, cs, ds, h, h' => by unfold RCk at h; subst h; simpa using h'
  | x :: xs, ys, cs, ds, h, h' => by
    unfold RCk at h
    obtain ⟨c1, c2, rfl, h2, h3, h4⟩ := h
    rw [List.cons_append, List.append_assoc]
    unfold RCk
    exact ⟨c1, c2 ++ ds, rfl, h2, h3, RCk_append k xs ys c2 ds h4 h'⟩

/-- append to nothing, as an object of its own. -/
theorem done_app0 (hi : Inv num w F β ob) (hg : ∀ p, β p tg = none) {q : Nat} {t u ty : TypeId} {k lim : Nat} (he : elSz P t k = true) (hlim : limOk P t lim = true) (hu : notInt P u = true)
    {y : Option Addr} (hy : ∀ a, y = some a → a.spot = none) {v : Value} {ys : List AV} {news : List Value} (hv : ArgIs P w k v ys.length news) (hr : RCk num w F β k ys news) (hm : ys.length ≤ lim) :
    Done P num (Builtin.append_ #[t, u] ty #[.slice y 0 0, v]) w F β ob (up ob q (tg, .arr k ys)) tg (.own q tg k 0 ys.length) := by
  obtain ⟨e, it, zv, h1, h2, h3, h4, h5, h6⟩ := elSz_spec he
  by_cases h0 : ys.length = 0
  · have hys : ys = [] := List.eq_nil_of_length_eq_zero h0
    subst hys
    have hn : news = [] := by have := hv.size; simp at this; exact this
    subst hn
    have hrun := append_room (P := P) (w := w) (w' := w) (ty := ty) (n := 0) (m := 0) (cap := 0) (base := y) (v := v) (news := []) h1 h2 h4 hu hv (Nat.le_refl _) (by cases y <;> simp [storeCells])
    refine ⟨_, w, F, β.set q tg none, hrun, ⟨fun _ h => h, fun _ _ => rfl, fun _ _ h => h, Beta.set_ext hg q none⟩, Chg.refl _ _ _, inv_none hi hg, RX.of_single ?_ rfl, Tail.put fun b hb => by cases hb⟩
    unfold RC
    exact .inl ⟨y, hy, rfl, rfl⟩
  · obtain ⟨e', cells, rest, nc, g1, g2, g3, g4, g5⟩ := app_new (P := P) (w := w) (ty := ty) (n := 0) (cap := 0) (base := y) (olds := []) he hlim (by omega : 0 + ys.length ≤ lim) hu .empty hv (by omega)
    simp only [Nat.zero_add, List.nil_append] at g1 g2 g3
    exact done_arr hi hg (w0 := w.drew) rfl rfl rfl rfl _ g1 hr g2 g3 g4 g5

/-- append to nothing, frozen. -/
theorem done_clone (hi : Inv num w F β ob) {t u ty : TypeId} {k lim : Nat} (he : elSz P t k = true) (hlim : limOk P t lim = true) (hu : notInt P u = true)
    {y : Option Addr} (hy : ∀ a, y = some a → a.spot = none) {v : Value} {ys : List AV} {news : List Value} (hv : ArgIs P w k v ys.length news) (hr : RCk num w F β k ys news) (hm : ys.length ≤ lim) :
    Done P num (Builtin.append_ #[t, u] ty #[.slice y 0 0, v]) w F β ob ob tg (.sl k ys) := by
  obtain ⟨e, it, zv, h1, h2, h3, h4, h5, h6⟩ := elSz_spec he
  by_cases h0 : ys.length = 0
  · have hys : ys = [] := List.eq_nil_of_length_eq_zero h0
    subst hys
    have hn : news = [] := by have := hv.size; simp at this; exact this
    subst hn
    have hrun := append_room (P := P) (w := w) (w' := w) (ty := ty) (n := 0) (m := 0) (cap := 0) (base := y) (v := v) (news := []) h1 h2 h4 hu hv (Nat.le_refl _) (by cases y <;> simp [storeCells])
    refine ⟨_, w, F, β, hrun, Later.refl _ _ _, Chg.refl _ _ _, hi, RX.of_single ?_ rfl, .same⟩
    unfold RC
    cases y with
    | none => exact .inl ⟨rfl, rfl⟩
    | some a => exact .inr ⟨a, 0, [], rfl, Nat.le_refl _, ⟨fun _ => hy a rfl, fun h => (h rfl).elim, by simp⟩, by unfold RCk; rfl⟩
  · obtain ⟨e', cells, rest, nc, g1, g2, g3, g4, g5⟩ := app_new (P := P) (w := w) (ty := ty) (n := 0) (cap := 0) (base := y) (olds := []) he hlim (by omega : 0 + ys.length ≤ lim) hu .empty hv (by omega)
    simp only [Nat.zero_add, List.nil_append] at g1 g2 g3
    have hl0 : Later w F β w.drew F β := Later.of_heap rfl
    have hi0 : Inv num w.drew F β ob := Inv.of_heap (w := w) (w' := w.drew) rfl hi
    refine ⟨_, _, _, β, g1, hl0.trans (later_alloc hi0.fin _), (Chg.of_heap (w := w) (w' := w.drew) rfl rfl rfl rfl).trans (chg_alloc (w := w.drew) _ _) (fun _ h => .inl h), inv_alloc hi0 _, RX.of_single ?_ rfl, .same⟩
    unfold RC
    have hrow := row_alloc (w := w.drew) (F := F) cells e'
    rw [g2] at hrow
    have := Row.part (pre := []) (c := news) (post := rest) (by simpa using hrow)
    rw [List.length_nil, add_plain rfl] at this
    exact .inr ⟨_, nc, news, rfl, g3, this, RCk.later (hl0.trans (later_alloc hi0.fin _)) _ _ _ hr⟩

theorem cloneV_done (hi : Inv num w F β ob) {t u ty : TypeId} {k lim : Nat} (he : elSz P t k = true) (hlim : limOk P t lim = true) (hu : notInt P u = true)
    {a b r : AV} {x v : Value} (ha : RX num w F β a x) (hb : RX num w F β b v) (h : (cloneV k lim a b).run ob = some r) : Done P num (Builtin.append_ #[t, u] ty #[x, v]) w F β ob ob tg r := by
  have key : (∃ y : Option Addr, (∀ a, y = some a → a.spot = none) ∧ x = .slice y 0 0) ∧ ((b.appElems k).bind fun ys => if ys.length ≤ lim then MO.ret (AV.sl k ys) else .fail).run ob = some r := by
    unfold cloneV at h
    split at h
    · exact ⟨⟨none, by simp, ha.nil_inv⟩, h⟩
    · obtain ⟨ad, h1, h2⟩ := ha.e0_inv
      exact ⟨⟨some ad, by rintro a ⟨⟩; exact h1, h2⟩, h⟩
    · cases h
  obtain ⟨⟨y, hy, rfl⟩, h⟩ := key
  rw [MO.bind_run] at h
  cases hys : (b.appElems k).run ob with
  | none => rw [hys] at h; cases h
  | some ys =>
    rw [hys] at h
    dsimp only at h
    split at h
    · cases h
      obtain ⟨news, g1, g2⟩ := appElems_run (P := P) hi hb hys
      exact done_clone hi he hlim hu hy g1 g2 ‹_›
    · cases h

theorem cloneOV_done (hi : Inv num w F β ob) (hg : ∀ p, β p tg = none) {p : Nat} {t u ty : TypeId} {k lim : Nat} (he : elSz P t k = true) (hlim : limOk P t lim = true) (hu : notInt P u = true)
    {a b : AV} {r : AV × List Wr} {x v : Value} (ha : RX num w F β a x) (hb : RX num w F β b v) (h : (cloneOV p k lim tg a b).run ob = some r) : Done P num (Builtin.append_ #[t, u] ty #[x, v]) w F β ob (wrsO ob r.2) tg r.1 := by
  have key : (∃ y : Option Addr, (∀ a, y = some a → a.spot = none) ∧ x = .slice y 0 0) ∧ ((b.appElems k).bind fun ys => if ys.length ≤ lim then newV (keyOf p tg) tg (.own (keyOf p tg) tg k 0 ys.length) (.arr k ys) else .fail).run ob = some r := by
    unfold cloneOV at h
    split at h
    · exact ⟨⟨none, by simp, ha.nil_inv⟩, h⟩
    · obtain ⟨ad, h1, h2⟩ := ha.e0_inv
      exact ⟨⟨some ad, by rintro a ⟨⟩; exact h1, h2⟩, h⟩
    · cases h
  obtain ⟨⟨y, hy, rfl⟩, h⟩ := key
  rw [MO.bind_run] at h
  cases hys : (b.appElems k).run ob with
  | none => rw [hys] at h; cases h
  | some ys =>
    rw [hys] at h
    dsimp only at h
    split at h
    · obtain ⟨_, rfl⟩ := newV_run h
      obtain ⟨news, g1, g2⟩ := appElems_run (P := P) hi hb hys
      exact done_app0 hi hg he hlim hu hy g1 g2 ‹_›
    · cases h

theorem appV_done (hi : Inv num w F β ob) (hg : ∀ p, β p tg = none) {p : Nat} {t u ty : TypeId} {k lim : Nat} (he : elSz P t k = true) (hlim : limOk P t lim = true) (hu : notInt P u = true)
    {a b : AV} {r : AV × List Wr} {x v : Value} (ha : RX num w F β a x) (hb : RX num w F β b v) (h : (appV p k lim tg a b).run ob = some r) : Done P num (Builtin.append_ #[t, u] ty #[x, v]) w F β ob (wrsO ob r.2) tg r.1 := by
  unfold appV at h
  rw [MO.bind_run] at h
  cases hys : (b.appElems k).run ob with
  | none => rw [hys] at h; cases h
  | some ys =>
    rw [hys] at h
    dsimp only at h
    obtain ⟨news, g1, g2⟩ := appElems_run (P := P) hi hb hys
    split at h
    · rename_i q g' k1 off n
      have hget := MO.get_run h
      clear h
      obtain ⟨o, hl, h⟩ := hget
      split at h
      · rename_i k' xs
        split at h
        · rename_i hc
          obtain ⟨rfl, rfl, rfl, hn, hlimn⟩ := hc
          cases h
          rcases ha.own_inv with ⟨y, hy, rfl, rfl⟩ | ⟨blk, cap, sz, hbk, rfl, hcap, hmax, hsz, hfit⟩
          · have := done_app0 (q := q) (ty := ty) hi hg he hlim hu hy g1 g2 (by omega)
            simpa [wrsO, wrO] using this
          · obtain ⟨e, it, zv, h1, h2, h3, h4, h5, h6⟩ := elSz_spec he
            obtain ⟨x0, hx0, ho⟩ := hi.rep q g' _ hl
            rw [hbk] at hx0
            cases hx0
            have hown := hi.own q g' _ blk hl hbk
            have ho' := ho
            unfold ORep at ho'
            obtain ⟨c, e0, cs, rest, hh, hr, hcs⟩ := ho'
            obtain ⟨c1, c2, rfl, f1, f2, f3⟩ := RCk_take _ xs cs n hr
            have hc1 : c1.length = n * k1 := by rw [f1, Nat.min_eq_left hn]
            simp only [Nat.zero_mul]
            have hszc : c.size = sz := by
              unfold blkSize at hsz
              rw [hh] at hsz
              simpa using hsz
            have holds : ArgIs P w k1 (.slice (some ⟨blk, 0, none⟩) n cap) n c1 := .slice hc1 fun j u hj => by
              rw [add_plain rfl, cell_row hh, hcs]
              have hlt : j < c1.length := (List.getElem?_eq_some_iff.1 hj).1
              show (c1 ++ c2 ++ rest)[0 + j]? = some u
              rw [Nat.zero_add, List.append_assoc, List.getElem?_append_left hlt, hj]
            have hnew : RCk num w F β k1 (xs.take n ++ ys) (c1 ++ news) := RCk_append _ _ _ _ _ f2 g2
            by_cases hroom : n + ys.length ≤ cap
            · have hone : ∀ u ∈ news, u.oneCell' = true := RCk_one _ _ _ g2
              have hfitc : n * k1 + 0 + news.length ≤ c.size := by
                rw [g1.size, hszc]
                have : (n + ys.length) * k1 ≤ cap * k1 := Nat.mul_le_mul_right _ hroom
                rw [Nat.add_mul] at this
                rw [Nat.zero_add] at hfit
                omega
              have hst := run_storeCells_at P blk (n * k1) e0 news 0 c w hh hfitc hone
              have hcut : (c.toList.take (n * k1 + 0) ++ news ++ c.toList.drop (n * k1 + 0 + news.length)) = (c1 ++ news) ++ (c2 ++ rest).drop news.length := by
                rw [hcs, Nat.add_zero, ← hc1]
                simp [List.append_assoc, List.drop_append]
              have hrun := append_room (P := P) (w := w) (ty := ty) (n := n) (cap := cap) (base := some ⟨blk, 0, none⟩) h1 h2 h4 hu g1 hroom (show (storeCells ((⟨blk, 0, none⟩ : Addr).add (n * k1)) news).run P w = .ok () (w.setRow blk (c.toList.take (n * k1 + 0) ++ news ++ c.toList.drop (n * k1 + 0 + news.length)).toArray) from by rw [add_plain rfl, Nat.zero_add]; exact hst)
              have hwr : Wrote w (w.setRow blk (c.toList.take (n * k1 + 0) ++ news ++ c.toList.drop (n * k1 + 0 + news.length)).toArray) blk := wrote_setRow hh (by simp; omega)
              have hlat : Later w F β (w.setRow blk (c.toList.take (n * k1 + 0) ++ news ++ c.toList.drop (n * k1 + 0 + news.length)).toArray) F (β.set q tg (some blk)) :=
                (hwr.later (β := β) hown.1).trans ⟨fun _ h => h, fun _ _ => rfl, fun _ _ h => h, Beta.set_ext hg q _⟩
              refine ⟨_, _, F, β.set q tg (some blk), hrun, hlat, hwr.chg ⟨q, g', _, hl, hbk⟩, ?_, RX.of_single ?_ rfl, Tail.put fun b hb => by cases hb; exact .inl ⟨q, g', _, hl, hbk⟩⟩
              · refine hi.put hlat (Nat.le_of_eq hwr.heap.symm) (Beta.set_same _ _ _ _) ?_ (fun b0 hb0 => ?_) fun b0 q' g'' o' hne hq' hqb => ?_
                · unfold ORep
                  exact ⟨_, e0, c1 ++ news, (c2 ++ rest).drop news.length, setRow_heap w blk c _ e0 (0, 0) hh, RCk.later hlat _ _ _ hnew, by rw [← hcut]⟩
                · cases hb0
                  refine ⟨hown.1, by rw [hwr.heap]; exact hown.2, fun q' g'' o' hne hq' hqb => hne ?_⟩
                  exact hi.inj _ _ _ _ _ _ _ hq' hl hqb hbk
                · refine hwr.block b0 (fun hb0 => hne ?_)
                  subst hb0
                  exact hi.inj _ _ _ _ _ _ _ hq' hl hqb hbk
              · unfold RC
                exact .inr ⟨blk, cap, sz, Beta.set_same _ _ _ _, by simp, hroom, hmax, hwr.size _ hsz, hfit⟩
            · obtain ⟨e', cells, rest', nc, k2, k3, k4, k5, k6⟩ := app_new (P := P) (w := w) (ty := ty) (n := n) (cap := cap) (base := some ⟨blk, 0, none⟩) he hlim hlimn hu holds g1 (by omega)
              exact done_arr hi hg (w0 := w.drew) rfl rfl rfl rfl _ k2 hnew k3 k4 k5 k6
        · cases h
      · cases h
    · split at h
      · obtain ⟨_, rfl⟩ := newV_run h
        rw [ha.nil_inv]
        exact done_app0 hi hg he hlim hu (by simp) g1 g2 ‹_›
      · cases h
    · split at h
      · obtain ⟨_, rfl⟩ := newV_run h
        obtain ⟨ad, h1, rfl⟩ := ha.e0_inv
        exact done_app0 hi hg he hlim hu (by rintro a ⟨⟩; exact h1) g1 g2 ‹_›
      · cases h
    · cases h

/-- The only store into a variable. -/
theorem finV_done {t : TypeId} {n : Nat} (ht : (P.info? t).map (·.size) = some n) (hpos : 0 < n) (hi : Inv num w F β ob) {a b : AV} {r : AV × List Wr} {x y : Value} (ha : RX num w F β a x) (hb : RX num w F β b y)
    (h : (finV n a b).run ob = some r) : ∃ w' F', (Instr.storeAt t x y).run P w = .ok () w' ∧ Later w F β w' F' β ∧ Chg w F (liveB β ob) w' F' ∧ Inv num w' F' β (wrsO ob r.2) ∧ RX num w' F' β r.1 x ∧ Tail w β ob β (wrsO ob r.2) tg := by
  unfold finV at h
  split at h
  · rename_i p g off
    have hget := MO.get_run h
    clear h
    obtain ⟨o, hl, h⟩ := hget
    split at h
    · rename_i z
      split at h
      · rename_i hc
        obtain ⟨rfl, hn, hsz⟩ := hc
        cases h
        have h1 := ha.single (by simp) (by simp) rfl
        unfold RC at h1
        obtain ⟨blk, hbk, hx⟩ := h1
        simp only [List.cons.injEq, and_true] at hx
        subst hx
        obtain ⟨x0, hx0, ho⟩ := hi.rep p g _ hl
        rw [hbk] at hx0
        cases hx0
        have hown := hi.own p g _ blk hl hbk
        unfold ORep at ho
        obtain ⟨c, e, hh, hz⟩ := ho
        have hz : RC num w F β z c.toList := by
          rcases hz with hz | rfl | ⟨as, rfl⟩
          · exact hz
          · rw [hn] at hsz; simp [AV.size] at hsz; omega
          · rw [hn] at hsz; simp [AV.size] at hsz; omega
        have hcy := hb.cells (by omega)
        have hlen := RC_len _ _ hcy
        have hlen2 := RC_len _ _ hz
        simp only [Array.length_toList] at hlen hlen2
        have hone := RC_one _ _ hcy
        obtain ⟨info, hinfo, hsi⟩ := Option.map_eq_some_iff.1 ht
        have hst := run_storeCells_at P blk 0 e y.cells.toList 0 c w hh (by simp; omega) hone
        have hcut : (c.toList.take (0 + 0) ++ y.cells.toList ++ c.toList.drop (0 + 0 + y.cells.toList.length)).toArray = y.cells := by
          have : c.toList.drop (0 + 0 + y.cells.toList.length) = [] := List.drop_eq_nil_of_le (by simp; omega)
          rw [this]; simp
        rw [hcut] at hst
        have hwr : Wrote w (w.setRow blk y.cells) blk := wrote_setRow hh (by omega)
        have hlat := hwr.later (β := β) (F := F) hown.1
        have hheap := setRow_heap w blk c y.cells e (0, 0) hh
        have hlat2 : Later w F β (w.setRow blk y.cells) (fun b => F b ∨ b = blk) β :=
          hlat.trans ⟨fun _ h => .inl h, fun _ _ => rfl, fun _ _ h => h, fun _ _ _ h => h⟩
        have hsy : y.cells.size = n := by omega
        have htail : Tail w β ob β (rm ob p) tg := ⟨fun _ _ _ h => .inl h, fun b hb => by
          obtain ⟨q, g', o', h1, h2⟩ := hb
          rw [lk_rm] at h1
          split at h1
          · cases h1
          · exact .inl ⟨q, g', o', h1, h2⟩⟩
        refine ⟨_, fun b => F b ∨ b = blk, ?_, hlat2, ?_, ?_, RX.of_single ?_ rfl, htail⟩
        · simp only [Instr.storeAt, Instr.sureAddr, storeVar, sizeOf, typeInfo, Sem.run_bind, Sem.run_pure, run_program, Result.andThen_ok, hinfo, hsi, hsy]
          simp only [ne_eq, not_true_eq_false, if_false]
          exact hst
        · have := (hwr.chg (F := F) (M := liveB β ob) ⟨p, g, _, hl, hbk⟩)
          exact ⟨this.os, this.tape, this.output, this.size, this.block, fun b hb => hb.elim .inl fun e => .inr (.inl (e ▸ ⟨p, g, _, hl, hbk⟩))⟩
        · have hless : Inv num w F β (rm ob p) := hi.fewer fun q x hq => by
            rw [lk_rm] at hq
            split at hq
            · cases hq
            · exact hq
          refine hless.later hlat2 (fun b hb => ?_) fun b hb => ?_
          · rw [hwr.heap]
            rcases hb with hb | rfl
            · exact hi.fin b hb
            · exact hown.2
          · obtain ⟨q, g', o', hq, hqb⟩ := hb
            rw [lk_rm] at hq
            split at hq
            · cases hq
            · rename_i hne
              have hneb : b ≠ blk := by
                rintro rfl
                exact hne (hi.inj _ _ _ _ _ _ _ hq hl hqb hbk)
              have := hi.own q g' o' b hq hqb
              exact ⟨hwr.block b hneb, fun h => h.elim this.1 hneb, by rw [hwr.heap]; exact this.2⟩
        · unfold RC
          refine ⟨⟨blk, 0, none⟩, y.cells.toList, rfl, ⟨fun _ => rfl, fun _ => .inr rfl, fun j u hj => ?_⟩, RC.later hlat2 _ _ hcy⟩
          rw [add_plain rfl, cell_row hheap]
          simpa using hj
      · cases h
    · cases h
  · cases h
end
end Go.Fw
