import Derived.Test.YtniofejaoleipaaGreatDoorFwHolds
/-
  What an instruction looks at.
-/
namespace Go.Fw

def X.slots : X → List Nat
  | .s n => [n]
  | .c _ => []
def xsSlots : List X → List Nat
  | [] => []
  | x :: r => x.slots ++ xsSlots r
def psSlots : List (Nat × X) → List Nat
  | [] => []
  | (_, x) :: r => x.slots ++ psSlots r
def oxSlots : Option X → List Nat
  | none => []
  | some x => x.slots
def MV.slots : MV → List Nat
  | .mv x => x.slots
  | .pick c a b => c.slots ++ (a.slots ++ b.slots)
  | .boxC x => x.slots
  | .mkfn _ caps => xsSlots caps
def PO.slots : PO → List Nat
  | .build _ _ ps => psSlots ps
  | .bsl _ _ _ ps => psSlots ps
  | .bin _ x y => x.slots ++ y.slots
  | .eqt _ _ x y => x.slots ++ y.slots
  | .un _ x => x.slots
  | .conv _ x => x.slots
  | .faddr _ _ x => x.slots
  | .fld _ _ _ x => x.slots
  | .iaddr _ x i => x.slots ++ i.slots
  | .idx x i => x.slots ++ i.slots
  | .slc _ x lo hi => x.slots ++ (oxSlots lo ++ oxSlots hi)
  | .len _ x => x.slots
  | .mm _ x ys => x.slots ++ xsSlots ys
  | .extr x _ => x.slots
  | .nilchk x => x.slots
def RO.slots : RO → List Nat
  | .load _ _ x => x.slots
  | .clone _ _ x y => x.slots ++ y.slots
  | .lookup x k _ _ => x.slots ++ k.slots
  | .mlen x => x.slots
def WO.slots : WO → List Nat
  | .alloc _ _ => []
  | .boxO _ x => x.slots
  | .bslO _ _ _ _ ps => psSlots ps
  | .store _ x y => x.slots ++ y.slots
  | .app _ _ _ x y => x.slots ++ y.slots
  | .cloneO _ _ _ x y => x.slots ++ y.slots
  | .newnil _ _ => []
  | .mkslice _ _ _ _ n => n.slots
  | .mkmap _ => []
  | .mapupd x k y => x.slots ++ (k.slots ++ y.slots)
def argSlots : List (X × AMode) → List Nat
  | [] => []
  | (x, _) :: r => x.slots ++ argSlots r
def ACall.slots : ACall → List Nat
  | .fn _ => []
  | .val x => x.slots
def gdSlots : Option (Nat × Bool) → List Nat
  | none => []
  | some (s, _) => [s]
/-- The slots that an instruction reads. -/
def Ins.slots : Ins → List Nat
  | .m _ g o => gdSlots g ++ o.slots
  | .p _ g o => gdSlots g ++ o.slots
  | .r _ g o => gdSlots g ++ o.slots
  | .w _ g o => gdSlots g ++ o.slots
  | .fin g _ s y => gdSlots g ++ (s :: y.slots)
  | .call _ g f as _ => gdSlots g ++ (f.slots ++ argSlots as)
  | .calli _ g f as => gdSlots g ++ (f.slots ++ xsSlots as)
  | .cally _ g x as => gdSlots g ++ (x.slots ++ xsSlots as)
/-- The slot that it writes. -/
def Ins.wslot : Ins → Option Nat
  | .fin _ _ s _ => some s
  | i => i.dst
/-- Does it read alone? -/
def Ins.rdo : Ins → Bool
  | .m .. | .p .. | .r .. => true
  | _ => false
/-- May it look at objects? -/
def Ins.touch : Ins → Bool
  | .m .. | .p .. => false
  | _ => true

section
variable {env env' : Env} {ob ob' : Ob}

theorem X.ev_congr {x : X} (h : ∀ n ∈ x.slots, lk env n = lk env' n) : x.ev env = x.ev env' := by
  cases x with
  | s n => exact h n (List.mem_singleton.2 rfl)
  | c a => rfl
theorem mapX_congr : ∀ {xs : List X}, (∀ n ∈ xsSlots xs, lk env n = lk env' n) → mapX (X.ev env) xs = mapX (X.ev env') xs
  | [], _ => rfl
  | x :: r, h => by
    unfold mapX
    rw [X.ev_congr (fun n hn => h n (List.mem_append_left _ hn)), mapX_congr (fun n hn => h n (List.mem_append_right _ hn))]
theorem evParts_congr : ∀ {xs : List (Nat × X)}, (∀ n ∈ psSlots xs, lk env n = lk env' n) → evParts (X.ev env) xs = evParts (X.ev env') xs
  | [], _ => rfl
  | (i, x) :: r, h => by
    unfold evParts
    rw [X.ev_congr (fun n hn => h n (List.mem_append_left _ hn)), evParts_congr (fun n hn => h n (List.mem_append_right _ hn))]
theorem evArgs_congr : ∀ {xs : List (X × AMode)}, (∀ n ∈ argSlots xs, lk env n = lk env' n) → evArgs env xs = evArgs env' xs
  | [], _ => rfl
  | (x, m) :: r, h => by
    unfold evArgs
    rw [X.ev_congr (fun n hn => h n (List.mem_append_left _ hn)), evArgs_congr (fun n hn => h n (List.mem_append_right _ hn))]

theorem MV.sem_congr {o : MV} (h : ∀ n ∈ o.slots, lk env n = lk env' n) : o.sem (X.ev env) = o.sem (X.ev env') := by
  cases o with
  | mv x => exact X.ev_congr h
  | pick c a b =>
    simp only [MV.sem]
    simp only [MV.slots, List.mem_append] at h
    rw [X.ev_congr (x := c) (fun n hn => h n (.inl hn)), X.ev_congr (x := a) (fun n hn => h n (.inr (.inl hn))), X.ev_congr (x := b) (fun n hn => h n (.inr (.inr hn)))]
  | boxC x => simp only [MV.sem]; rw [X.ev_congr (x := x) h]
  | mkfn f caps => simp only [MV.sem]; rw [mapX_congr (xs := caps) h]

theorem PO.sem_congr {o : PO} (h : ∀ n ∈ o.slots, lk env n = lk env' n) : o.sem (X.ev env) = o.sem (X.ev env') := by
  have two : ∀ {x y : X}, (∀ n ∈ x.slots ++ y.slots, lk env n = lk env' n) → x.ev env = x.ev env' ∧ y.ev env = y.ev env' :=
    fun h => ⟨X.ev_congr fun n hn => h n (List.mem_append_left _ hn), X.ev_congr fun n hn => h n (List.mem_append_right _ hn)⟩
  cases o with
  | build ss z ps => simp only [PO.sem]; rw [evParts_congr (xs := ps) h]
  | bsl k n z ps => simp only [PO.sem]; rw [evParts_congr (xs := ps) h]
  | bin op x y => simp only [PO.sem]; rw [(two h).1, (two h).2]
  | eqt e ng x y => simp only [PO.sem]; rw [(two h).1, (two h).2]
  | un op x => simp only [PO.sem]; rw [X.ev_congr (x := x) h]
  | conv k x => simp only [PO.sem]; rw [X.ev_congr (x := x) h]
  | faddr ss i x => simp only [PO.sem]; rw [X.ev_congr (x := x) h]
  | fld ss i ag x => simp only [PO.sem]; rw [X.ev_congr (x := x) h]
  | iaddr k x i => simp only [PO.sem]; rw [(two h).1, (two h).2]
  | idx x i => simp only [PO.sem]; rw [(two h).1, (two h).2]
  | slc k x lo hi =>
    simp only [PO.sem]
    simp only [PO.slots, List.mem_append] at h
    rw [X.ev_congr (x := x) (fun n hn => h n (.inl hn))]
    cases lo with
    | none =>
      cases hi with
      | none => rfl
      | some q => dsimp only; rw [X.ev_congr (x := q) (fun n hn => h n (.inr (.inr hn)))]
    | some l =>
      cases hi with
      | none => dsimp only; rw [X.ev_congr (x := l) (fun n hn => h n (.inr (.inl hn)))]
      | some q => dsimp only; rw [X.ev_congr (x := l) (fun n hn => h n (.inr (.inl hn))), X.ev_congr (x := q) (fun n hn => h n (.inr (.inr hn)))]
  | len s x => simp only [PO.sem]; rw [X.ev_congr (x := x) h]
  | mm mx x ys =>
    simp only [PO.sem]
    simp only [PO.slots, List.mem_append] at h
    rw [X.ev_congr (x := x) (fun n hn => h n (.inl hn)), mapX_congr (xs := ys) (fun n hn => h n (.inr hn))]
  | extr x i => simp only [PO.sem]; rw [X.ev_congr (x := x) h]
  | nilchk x => simp only [PO.sem]; rw [X.ev_congr (x := x) h]

theorem RO.sem_congr {o : RO} (h : ∀ n ∈ o.slots, lk env n = lk env' n) : o.sem (X.ev env) = o.sem (X.ev env') := by
  have two : ∀ {x y : X}, (∀ n ∈ x.slots ++ y.slots, lk env n = lk env' n) → x.ev env = x.ev env' ∧ y.ev env = y.ev env' :=
    fun h => ⟨X.ev_congr fun n hn => h n (List.mem_append_left _ hn), X.ev_congr fun n hn => h n (List.mem_append_right _ hn)⟩
  cases o with
  | load n ag x => simp only [RO.sem]; rw [X.ev_congr (x := x) h]
  | clone k l x y => simp only [RO.sem]; rw [(two h).1, (two h).2]
  | lookup x k d ok => simp only [RO.sem]; rw [(two h).1, (two h).2]
  | mlen x => simp only [RO.sem]; rw [X.ev_congr (x := x) h]

theorem WO.sem_congr {o : WO} {g : Nat} (h : ∀ n ∈ o.slots, lk env n = lk env' n) : o.sem (X.ev env) g = o.sem (X.ev env') g := by
  have two : ∀ {x y : X}, (∀ n ∈ x.slots ++ y.slots, lk env n = lk env' n) → x.ev env = x.ev env' ∧ y.ev env = y.ev env' :=
    fun h => ⟨X.ev_congr fun n hn => h n (List.mem_append_left _ hn), X.ev_congr fun n hn => h n (List.mem_append_right _ hn)⟩
  cases o with
  | alloc p z => rfl
  | boxO p x => simp only [WO.sem]; rw [X.ev_congr (x := x) h]
  | bslO p k n z ps => simp only [WO.sem]; rw [evParts_congr (xs := ps) h]
  | store n x y => simp only [WO.sem]; rw [(two h).1, (two h).2]
  | app p k l x y => simp only [WO.sem]; rw [(two h).1, (two h).2]
  | cloneO p k l x y => simp only [WO.sem]; rw [(two h).1, (two h).2]
  | newnil p k => rfl
  | mkslice p k l z n => simp only [WO.sem]; rw [X.ev_congr (x := n) h]
  | mkmap p => rfl
  | mapupd x k y =>
    simp only [WO.sem]
    simp only [WO.slots, List.mem_append] at h
    rw [X.ev_congr (x := x) (fun n hn => h n (.inl hn)), X.ev_congr (x := k) (fun n hn => h n (.inr (.inl hn))), X.ev_congr (x := y) (fun n hn => h n (.inr (.inr hn)))]

theorem ACall.ev_congr {f : ACall} (h : ∀ n ∈ f.slots, lk env n = lk env' n) : f.ev env = f.ev env' := by
  cases f with
  | fn f => rfl
  | val x => simp only [ACall.ev]; rw [X.ev_congr (x := x) h]

theorem MO.run_congr {α : Type} : ∀ (m : MO α), (∀ p ∈ m.seen ob, lk ob p = lk ob' p) → m.run ob = m.run ob' ∧ m.seen ob = m.seen ob'
  | .ret a, _ => ⟨rfl, rfl⟩
  | .fail, _ => ⟨rfl, rfl⟩
  | .abs p k, h => by
    have h' : ∀ q ∈ p :: k.seen ob, lk ob q = lk ob' q := h
    have e := h' p (List.mem_cons_self ..)
    obtain ⟨h1, h2⟩ := MO.run_congr k fun q hq => h' q (List.mem_cons_of_mem _ hq)
    simp only [MO.run, MO.seen]
    rw [← e, h1, h2]
    exact ⟨rfl, rfl⟩
  | .get p g k, h => by
    have e : lk ob p = lk ob' p := h p (by
      simp only [MO.seen]
      split
      · split
        · exact List.mem_cons_self ..
        · exact List.mem_singleton.2 rfl
      · exact List.mem_singleton.2 rfl)
    simp only [MO.run, MO.seen]
    rw [← e]
    cases hl : lk ob p with
    | none => exact ⟨rfl, rfl⟩
    | some x =>
      obtain ⟨g', o⟩ := x
      dsimp only
      split
      · rename_i hg
        obtain ⟨h1, h2⟩ := MO.run_congr (k o) fun q hq => h q (by
          simp only [MO.seen, hl, hg, if_true]
          exact List.mem_cons_of_mem _ hq)
        rw [h1, h2]
        exact ⟨rfl, rfl⟩
      · exact ⟨rfl, rfl⟩

theorem argsV_congr : ∀ (as : List (AV × AMode)) (q : Nat) (r : List AV × Ob × List Nat), argsV ob q as = some r → (∀ p ∈ r.2.2, lk ob p = lk ob' p) → argsV ob' q as = some r
  | [], q, r, h, _ => h
  | (a, .pass) :: as, q, r, h, hk => by
    unfold argsV at h ⊢
    split at h
    · rename_i as' ob1 ps hr
      cases h
      rw [argsV_congr as (q + 1) _ hr hk]
    · cases h
  | (a, .take) :: as, q, r, h, hk => by
    simp only [argsV] at h ⊢
    split at h
    · rename_i p g k1 n
      split at h
      · rename_i g' k xs hl
        split at h
        · rename_i hc
          split at h
          · rename_i as' ob1 ps hr
            split at h
            · cases h
            rename_i hmem
            cases h
            rw [← hk p (List.mem_cons_self ..), hl]
            dsimp only
            rw [if_pos hc, argsV_congr as (q + 1) _ hr fun p hp => hk p (List.mem_cons_of_mem _ hp)]
            dsimp only
            rw [if_neg hmem]
          · cases h
        · cases h
      · cases h
    · cases h
end
end Go.Fw
