import Derived.Shelf.Strings.BuilderK
import Derived.Shelf.Small.Strs
import Derived.Shelf.Strconv.Itoa3
import Derived.Test.YtniofejaoleipaaGreatDoorProg
import Derived.WalkKit
import Derived.BigCall
/-
  Contracts of library functions in this program, laid by the kit's tool.
-/
namespace Go.Proofs
open Go.Shelf
def Tryz.lays169_ren : Go.Shelf.Ren := ⟨fun | 169 => 126 | n => n, fun | 70 => 154 | 9 => 9 | 0 => 0 | 72 => 157 | 37 => 155 | 127 => 179 | 3 => 3 | 5 => 5 | n => n, fun | n => n⟩
theorem Tryz.lays169 : Go.Proofs.Lays.n169 Tryz.prog Tryz.lays169_ren := {
  mixed := by kernel_rfl
  f169 := Tryz.func126.trans (congrArg some (by kernel_rfl))
  t0 := Tryz.underlying0
  a0 := Tryz.isAgg0
  z0 := Tryz.sizeOf0
  v0 := Tryz.zeroValue0
  t3 := Tryz.underlying3
  a3 := Tryz.isAgg3
  z3 := Tryz.sizeOf3
  v3 := Tryz.zeroValue3
  t9 := Tryz.underlying9
  a9 := Tryz.isAgg9
  z9 := Tryz.sizeOf9
  v9 := Tryz.zeroValue9
  t37 := Tryz.underlying155
  a37 := Tryz.isAgg155
  z37 := Tryz.sizeOf155
  v37 := Tryz.zeroValue155
  t70 := Tryz.underlying154
  a70 := Tryz.isAgg154
  z70 := Tryz.sizeOf154
  v70 := Tryz.zeroValue154
  t72 := Tryz.underlying157
  a72 := Tryz.isAgg157
  z72 := Tryz.sizeOf157
  v72 := Tryz.zeroValue157
  t127 := Tryz.underlying179
  a127 := Tryz.isAgg179
  z127 := Tryz.sizeOf179
  v127 := Tryz.zeroValue179 }
theorem Tryz.Builder_Extra_169 : Builder.Extra Tryz.prog Tryz.lays169_ren := {
  sizeBuilder := by kernel_rfl
  liesBuilder := by kernel_rfl
  t5 := Tryz.underlying5
  a5 := Tryz.isAgg5
  z5 := Tryz.sizeOf5
  v5 := Tryz.zeroValue5
  infoByte := by kernel_rfl
  cellsByte := by kernel_rfl
  sizeByte := by kernel_rfl
  neB5 := by decide }
def Tryz.lays213_ren : Go.Shelf.Ren := ⟨fun | 213 => 139 | 265 => 159 | n => n, fun | 9 => 9 | 3 => 3 | n => n, fun | n => n⟩
theorem Tryz.lays213 : Go.Proofs.Lays.n213 Tryz.prog Tryz.lays213_ren := {
  mixed := by kernel_rfl
  f213 := Tryz.func139.trans (congrArg some (by kernel_rfl))
  f265 := Tryz.func159.trans (congrArg some (by kernel_rfl))
  t3 := Tryz.underlying3
  a3 := Tryz.isAgg3
  z3 := Tryz.sizeOf3
  v3 := Tryz.zeroValue3
  t9 := Tryz.underlying9
  a9 := Tryz.isAgg9
  z9 := Tryz.sizeOf9
  v9 := Tryz.zeroValue9 }
open Go.RowKit in
theorem Tryz.bytealg_CompareString (a b : ByteArray) (w : World) :
    Calls Tryz.prog 139 #[.string a, .string b] w fun e w' => e = .returned (.int .i64 (Lib.compareBytes a.data.toList b.data.toList)) ∧ w' = w := Any.bytealg_CompareString Tryz.lays213 a b w
open Go.RowKit in
theorem Tryz.Builder_String_any_k (B b : Nat) (l : List UInt8) (w : World) (h : Lib.IsBuilderF 157 5 B b (Lib.byteCells l) w) (hBw : B ≤ w.heap.size) :
    Calls Tryz.prog 126 #[.pointer (some ⟨b, 0, none⟩)] w fun e w' => e = .returned (.string ⟨l.toArray⟩) ∧ (Lib.IsBuilderF 157 5 B b (Lib.byteCells l) w' ∧ Below B w w' ∧ Lib.OthersKept 5 (some b) w w') := Any.Builder_String_any_k Tryz.lays169 Tryz.Builder_Extra_169 B b l w h hBw
def Tryz.lays171_ren : Go.Shelf.Ren := ⟨fun | 171 => 124 | 243 => 143 | 246 => 162 | 283 => 169 | 284 => 170 | 285 => 171 | 286 => 172 | 129 => 137 | 317 => 176 | 318 => 177 | 319 => 178 | 320 => 179 | 337 => 181 | 338 => 182 | n => n, fun | 3 => 3 | 9 => 9 | 2 => 2 | 4 => 4 | 171 => 204 | 0 => 0 | 53 => 176 | 37 => 155 | 5 => 5 | 173 => 206 | 212 => 214 | 51 => 174 | 20 => 20 | 213 => 215 | 46 => 110 | 232 => 217 | 233 => 218 | n => n, fun | 17 => 1 | 18 => 2 | 19 => 3 | n => n⟩
theorem Tryz.lays171 : Go.Proofs.Lays.n171 Tryz.prog Tryz.lays171_ren := {
  mixed := by kernel_rfl
  f129 := Tryz.func137.trans (congrArg some (by kernel_rfl))
  f171 := Tryz.func124.trans (congrArg some (by kernel_rfl))
  f243 := Tryz.func143.trans (congrArg some (by kernel_rfl))
  f246 := Tryz.func162.trans (congrArg some (by kernel_rfl))
  f283 := Tryz.func169.trans (congrArg some (by kernel_rfl))
  f284 := Tryz.func170.trans (congrArg some (by kernel_rfl))
  f285 := Tryz.func171.trans (congrArg some (by kernel_rfl))
  f286 := Tryz.func172.trans (congrArg some (by kernel_rfl))
  f317 := Tryz.func176.trans (congrArg some (by kernel_rfl))
  f318 := Tryz.func177.trans (congrArg some (by kernel_rfl))
  f319 := Tryz.func178.trans (congrArg some (by kernel_rfl))
  f320 := Tryz.func179.trans (congrArg some (by kernel_rfl))
  f337 := Tryz.func181.trans (congrArg some (by kernel_rfl))
  f338 := Tryz.func182.trans (congrArg some (by kernel_rfl))
  t0 := Tryz.underlying0
  a0 := Tryz.isAgg0
  z0 := Tryz.sizeOf0
  v0 := Tryz.zeroValue0
  t2 := Tryz.underlying2
  a2 := Tryz.isAgg2
  z2 := Tryz.sizeOf2
  v2 := Tryz.zeroValue2
  t3 := Tryz.underlying3
  a3 := Tryz.isAgg3
  z3 := Tryz.sizeOf3
  v3 := Tryz.zeroValue3
  t4 := Tryz.underlying4
  a4 := Tryz.isAgg4
  z4 := Tryz.sizeOf4
  v4 := Tryz.zeroValue4
  t5 := Tryz.underlying5
  a5 := Tryz.isAgg5
  z5 := Tryz.sizeOf5
  v5 := Tryz.zeroValue5
  t9 := Tryz.underlying9
  a9 := Tryz.isAgg9
  z9 := Tryz.sizeOf9
  v9 := Tryz.zeroValue9
  t20 := Tryz.underlying20
  a20 := Tryz.isAgg20
  z20 := Tryz.sizeOf20
  v20 := Tryz.zeroValue20
  t37 := Tryz.underlying155
  a37 := Tryz.isAgg155
  z37 := Tryz.sizeOf155
  v37 := Tryz.zeroValue155
  t46 := Tryz.underlying110
  a46 := Tryz.isAgg110
  z46 := Tryz.sizeOf110
  v46 := Tryz.zeroValue110
  t51 := Tryz.underlying174
  a51 := Tryz.isAgg174
  z51 := Tryz.sizeOf174
  v51 := Tryz.zeroValue174
  t53 := Tryz.underlying176
  a53 := Tryz.isAgg176
  z53 := Tryz.sizeOf176
  v53 := Tryz.zeroValue176
  t171 := Tryz.underlying204
  a171 := Tryz.isAgg204
  z171 := Tryz.sizeOf204
  v171 := Tryz.zeroValue204
  t173 := Tryz.underlying206
  a173 := Tryz.isAgg206
  z173 := Tryz.sizeOf206
  v173 := Tryz.zeroValue206
  t212 := Tryz.underlying214
  a212 := Tryz.isAgg214
  z212 := Tryz.sizeOf214
  v212 := Tryz.zeroValue214
  t213 := Tryz.underlying215
  a213 := Tryz.isAgg215
  z213 := Tryz.sizeOf215
  t232 := Tryz.underlying217
  a232 := Tryz.isAgg217
  z232 := Tryz.sizeOf217
  v232 := Tryz.zeroValue217
  t233 := Tryz.underlying218
  a233 := Tryz.isAgg218
  z233 := Tryz.sizeOf218
  v233 := Tryz.zeroValue218
  g17 := by kernel_rfl
  g18 := by kernel_rfl
  g19 := by kernel_rfl }
open Go.RowKit Go.Sort Go.Lib in
theorem Tryz.strconv_Itoa_small (i : Nat) (hi : i < 100) (w : World) :
    Calls Tryz.prog 124 #[.int .i64 i] w fun e w' => e = .returned (.string ⟨(Lib.decDigits i).toArray⟩) ∧ w' = w := Any.strconv_Itoa_small Tryz.lays171 i hi w

end Go.Proofs
/-
  strings.Builder in this program: copyCheck, WriteByte, WriteString: after the library's own proofs (the program's copyCheck ends otherwise where they panic).
-/
set_option linter.unusedVariables false
namespace Go.Proofs.Kb
open Go.Shelf Go.RowKit Go.Proofs

theorem sizeBuilder : (Tryz.prog.info? 157).map (·.size) = some 2 := by kernel_rfl
theorem liesBuilder : liesAt Tryz.prog Tryz.prog.depth 157 (2 / Tryz.prog.cellsOf 157) 0 157 1 = true := by kernel_rfl
theorem infoByte : (Tryz.prog.info? 5).map (fun i => (i.zero, i.size, i.bytes)) = some (some (.int .u8 0), 1, 1) := by kernel_rfl

set_option maxHeartbeats 1000000 in
set_option maxRecDepth 100000 in
theorem copyCheck_used (b : Nat) (w : World) (h0 : w.cell? ⟨b, 0, none⟩ = some (.pointer (some ⟨b, 0, none⟩))) :
    Calls Tryz.prog 142 #[.pointer (some ⟨b, 0, none⟩)] w fun e w' => e = .returned (.tuple #[]) ∧ w' = w := by
  obtain ⟨j, hj, _⟩ := Option.map_eq_some_iff.1 sizeBuilder
  go_enter Tryz.func142, Tryz.ntmps142
  go_wp2
  rw [Lib.run_neq_ptr_same w _ Tryz.underlying154 hj]
  go_wp2
  go_end0
  exact ⟨rfl, rfl⟩

set_option maxHeartbeats 1000000 in
set_option maxRecDepth 100000 in
theorem copyCheck_fresh (b : Nat) (w : World) (h0 : w.cell? ⟨b, 0, none⟩ = some (.pointer none)) (hsh : w.shape? b = some (157, 2)) (hfz : w.frozen? ⟨b, 0, none⟩ = false) :
    Calls Tryz.prog 142 #[.pointer (some ⟨b, 0, none⟩)] w fun e w' => e = .returned (.tuple #[]) ∧ w' = w.setCell ⟨b, 0, none⟩ (.pointer (some ⟨b, 0, none⟩)) := by
  obtain ⟨j, hj, hjs⟩ := Option.map_eq_some_iff.1 sizeBuilder
  go_enter Tryz.func142, Tryz.ntmps142
  go_wp2
  rw [Lib.run_to_unsafe w ⟨b, 0, none⟩ Tryz.underlying154 Tryz.underlying195 hj (by rw [hjs]; decide) hsh (Nat.zero_lt_succ 1)]
  simp only [Result.andThen]
  rw [Oper.upon_value]
  go_wp2
  rw [run_callFunc_extern Tryz.func161 (by kernel_rfl) (by kernel_rfl) (by kernel_rfl) (e := Extern.AbiNoEscape.same) (by kernel_rfl)]
  rw [Lib.run_noEscape]
  simp only [Result.andThen]
  rw [Oper.upon_value]
  go_wp2
  rw [Lib.run_from_unsafe w ⟨b, 0, none⟩ Tryz.underlying195 Tryz.underlying154 hj hsh liesBuilder]
  simp only [Result.andThen]
  rw [Oper.upon_value]
  go_wp2
  go_end0
  exact ⟨rfl, rfl⟩

/-- copyCheck: behind it the builder is used; its bytes are as they were. -/
theorem copyCheck (B b : Nat) (bs : List Value) (w : World) (h : Lib.IsBuilderF 157 5 B b bs w) :
    Calls Tryz.prog 142 #[.pointer (some ⟨b, 0, none⟩)] w fun e w' => e = .returned (.tuple #[]) ∧ (Lib.BuilderAtF 157 5 B b (.pointer (some ⟨b, 0, none⟩)) bs w' ∧ Below B w w' ∧ Lib.OthersKept 5 (some b) w w') := by
  rcases h with h | h
  · refine (copyCheck_fresh b w h.cell0 h.shape h.frozen0).mono ?_
    rintro e w' ⟨rfl, rfl⟩
    exact ⟨rfl, h.used _, (Below.refl B w).setCell (p := ⟨b, 0, none⟩) h.1 _, (Lib.OthersKept.refl _ _ w).setCell ⟨b, 0, none⟩ rfl _⟩
  · refine (copyCheck_used b w h.cell0).mono ?_
    rintro e w' ⟨rfl, rfl⟩
    exact ⟨rfl, h, Below.refl B _, Lib.OthersKept.refl _ _ _⟩

set_option maxHeartbeats 2000000 in
set_option maxRecDepth 100000 in
theorem writeByte (B b : Nat) (bs : List Value) (c : Int) (w : World) (h : Lib.IsBuilderF 157 5 B b bs w) (hlen : bs.length + 1 ≤ 140737488355328) (hBw : B ≤ w.heap.size) :
    Calls Tryz.prog 125 #[.pointer (some ⟨b, 0, none⟩), .int .u8 c] w fun e w' => e = .returned .nilIface ∧ (Lib.BuilderAtF 157 5 B b (.pointer (some ⟨b, 0, none⟩)) (bs ++ [.int .u8 c]) w' ∧ Below B w w' ∧ Lib.OthersKept 5 (some b) w w') := by
  obtain ⟨i0, hi, hz0, hz1, hz2⟩ := info_parts infoByte
  go_enter Tryz.func125, Tryz.ntmps125
  go_wp2_with (go_at_call 142; refine (copyCheck B b bs _ h).mono ?_)
  rintro e w1 ⟨rfl, h1, hb1, hk1⟩
  obtain ⟨hB, v, hbk, hown, hne⟩ := h1
  have c0 : w1.cell? ⟨b, 0, none⟩ = some (.pointer (some ⟨b, 0, none⟩)) := by rw [Lib.cell_of_heap hbk]; rfl
  have c1 : w1.cell? ⟨b, 1, none⟩ = some v := by rw [Lib.cell_of_heap hbk]; rfl
  go_wp2_with (at_builtin; refine wpList_append_ownF _ rfl _ _ 155 rfl B 5 i0 (.int .u8 0) 1 1 Tryz.underlying155 hi hz0 hz1 hz2 rfl (by decide) _ _ _ rfl (hown.alloc _) ⟨w1.heap.size, 0, none⟩ 1 1 [.int .u8 c] rfl rfl ?c1 ?c2 ?c3 ?c4 ?c5 ?_)
  case c1 =>
    intro j u hj
    match j, hj with
    | 0, hj => simp at hj; subst hj; simp [Addr.add]
  case c2 => intro u hu; simp at hu; subst hu; rfl
  case c3 => unfold maxLen; omega
  case c4 => omega
  case c5 => have := hb1.size; simp; omega
  intro v' w2 hown' hgrow _
  have hlt : b < w1.heap.size := by
    rcases Nat.lt_or_ge b w1.heap.size with h' | h'
    · exact h'
    · simp [Array.getElem?_eq_none h'] at hbk
  have hb2 : w2.heap[b]? = some (.cells #[.pointer (some ⟨b, 0, none⟩), v] 157 (0, 0)) := by
    rw [hgrow.block b (by simp; omega) (fun e => hne e.symm), Lib.alloc_old w1 _ b hlt]
    exact hbk
  have d0 : w2.cell? ⟨b, 0, none⟩ = some (.pointer (some ⟨b, 0, none⟩)) := by rw [Lib.cell_of_heap hb2]; rfl
  have d1 : w2.cell? ⟨b, 1, none⟩ = some v := by rw [Lib.cell_of_heap hb2]; rfl
  have f1 : w2.frozen? ⟨b, 1, none⟩ = false := Lib.frozen_of_heap hb2 1
  obtain ⟨g, cap, rfl⟩ : ∃ g cap, v' = .slice (some ⟨g, 0, none⟩) (bs.length + 1) cap := by
    rcases hown'.2 with ⟨_, h0⟩ | ⟨g, cap, cur, fz, hv, _⟩
    · omega
    · exact ⟨g, cap, hv⟩
  go_wp2
  go_ret
  refine ⟨rfl, ?_, ?_, ((hk1.alloc _).grown hgrow (Lib.ownsRowF_kind (hown.alloc _))).setCell ⟨b, 1, none⟩ rfl _⟩
  · exact Lib.BuilderAtF.put (T := 157) (e := 5) hB hb2 (bs' := bs ++ [.int .u8 c]) (by simpa using hown') (by decide)
  · exact ((hb1.alloc (by have := hb1.size; omega) _).grown hgrow (by have := hb1.size; simp; omega) (fun k hk => (hown.lt k hk).1)).setCell (p := ⟨b, 1, none⟩) hB _

set_option maxHeartbeats 2000000 in
set_option maxRecDepth 100000 in
theorem writeString (B b : Nat) (bs : List Value) (s : ByteArray) (w : World) (h : Lib.IsBuilderF 157 5 B b bs w) (hlen : bs.length + s.size ≤ 140737488355328) (hBw : B ≤ w.heap.size) :
    Calls Tryz.prog 123 #[.pointer (some ⟨b, 0, none⟩), .string s] w fun e w' => e = .returned (.tuple #[.int .i64 s.size, .nilIface]) ∧ (Lib.BuilderAtF 157 5 B b (.pointer (some ⟨b, 0, none⟩)) (bs ++ Lib.strCells s) w' ∧ Below B w w' ∧ Lib.OthersKept 5 (some b) w w') := by
  obtain ⟨i0, hi, hz0, hz1, hz2⟩ := info_parts infoByte
  go_enter Tryz.func123, Tryz.ntmps123
  go_wp2_with (go_at_call 142; refine (copyCheck B b bs _ h).mono ?_)
  rintro e w1 ⟨rfl, h1, hb1, hk1⟩
  obtain ⟨hB, v, hbk, hown, hne⟩ := h1
  have c0 : w1.cell? ⟨b, 0, none⟩ = some (.pointer (some ⟨b, 0, none⟩)) := by rw [Lib.cell_of_heap hbk]; rfl
  have c1 : w1.cell? ⟨b, 1, none⟩ = some v := by rw [Lib.cell_of_heap hbk]; rfl
  go_wp2_with (at_builtin; refine Lib.wpList_append_own_stringF _ rfl _ _ 155 9 rfl B 5 i0 Tryz.underlying155 Tryz.underlying9 hi hz0 hz1 hz2 _ _ _ rfl hown s rfl ?c3 ?c4 ?c5 ?_)
  case c3 => unfold maxLen; omega
  case c4 => omega
  case c5 => have := hb1.size; omega
  intro v' w2 hown' hgrow _
  have hlt : b < w1.heap.size := by
    rcases Nat.lt_or_ge b w1.heap.size with h' | h'
    · exact h'
    · simp [Array.getElem?_eq_none h'] at hbk
  have hb2 : w2.heap[b]? = some (.cells #[.pointer (some ⟨b, 0, none⟩), v] 157 (0, 0)) := by
    rw [hgrow.block b hlt (fun e => hne e.symm)]
    exact hbk
  have d0 : w2.cell? ⟨b, 0, none⟩ = some (.pointer (some ⟨b, 0, none⟩)) := by rw [Lib.cell_of_heap hb2]; rfl
  have d1 : w2.cell? ⟨b, 1, none⟩ = some v := by rw [Lib.cell_of_heap hb2]; rfl
  have f1 : w2.frozen? ⟨b, 1, none⟩ = false := Lib.frozen_of_heap hb2 1
  obtain ⟨ao, n', cap, rfl⟩ : ∃ ao n' cap, v' = .slice ao n' cap := by
    rcases hown'.2 with ⟨hv, _⟩ | ⟨g, cap, cur, fz, hv, _⟩
    · exact ⟨_, _, _, hv⟩
    · exact ⟨_, _, _, hv⟩
  go_wp2
  go_ret2
  refine ⟨rfl, ?_, ?_, (hk1.grown hgrow (Lib.ownsRowF_kind hown)).setCell ⟨b, 1, none⟩ rfl _⟩
  · exact Lib.BuilderAtF.put (T := 157) (e := 5) hB hb2 (bs' := bs ++ Lib.strCells s) (by simpa [Lib.strCells_length] using hown') (by decide)
  · exact (hb1.grown hgrow (by have := hb1.size; omega) (fun k hk => (hown.lt k hk).1)).setCell (p := ⟨b, 1, none⟩) hB _
end Go.Proofs.Kb
/-
  coalesce.key: what it returns, of short rows of small numbers.
-/
set_option linter.unusedVariables false
namespace Go.Proofs.Kb
open Go.Shelf Go.RowKit Go.Proofs

def num (v : Nat × Nat × ByteArray) : Nat → Nat
  | 0 => v.1
  | 1 => v.2.1
  | _ => v.2.2.size
def part (v : Nat × Nat × ByteArray) : Nat → List UInt8
  | 0 => []
  | m + 1 => part v m ++ (Lib.decDigits (num v m) ++ [32])
def valB (v : Nat × Nat × ByteArray) : List UInt8 := part v 3 ++ v.2.2.data.toList
def keyB (l : List (Nat × Nat × ByteArray)) : List UInt8 := l.flatMap valB

theorem digits_len {n : Nat} (h : n < 100) : (Lib.decDigits n).length ≤ 2 := by
  unfold Lib.decDigits
  split
  · simp
  · unfold Lib.decDigits
    rw [dif_pos (by omega)]
    simp
theorem part_len {v : Nat × Nat × ByteArray} (h : v.1 < 100 ∧ v.2.1 < 100 ∧ v.2.2.size < 100) : ∀ m, (part v m).length ≤ 3 * m
  | 0 => by simp [part]
  | m + 1 => by
    have h1 := part_len h m
    have h2 : num v m < 100 := by
      match m with
      | 0 => exact h.1
      | 1 => exact h.2.1
      | m + 2 => exact h.2.2
    have h3 := digits_len h2
    simp [part]
    omega
theorem valB_len {v : Nat × Nat × ByteArray} (h : v.1 < 100 ∧ v.2.1 < 100 ∧ v.2.2.size < 100) : (valB v).length ≤ 200 := by
  have h1 := part_len h 3
  have h2 : v.2.2.data.toList.length < 100 := by simpa using h.2.2
  unfold valB
  rw [List.length_append]
  omega
theorem keyB_len : ∀ (l : List (Nat × Nat × ByteArray)), (∀ v ∈ l, v.1 < 100 ∧ v.2.1 < 100 ∧ v.2.2.size < 100) → (keyB l).length ≤ 200 * l.length
  | [], _ => by simp [keyB]
  | v :: l, h => by
    have h1 := valB_len (h v (List.mem_cons_self ..))
    have h2 := keyB_len l fun u hu => h u (List.mem_cons_of_mem _ hu)
    unfold keyB at h2 ⊢
    simp only [List.flatMap_cons, List.length_append, List.length_cons]
    omega

theorem keyB_take {vals : List (Nat × Nat × ByteArray)} {k : Nat} {v : Nat × Nat × ByteArray} (h : vals[k]? = some v) : keyB (vals.take (k + 1)) = keyB (vals.take k) ++ valB v := by
  unfold keyB
  rw [List.take_add_one, h]
  simp

set_option maxHeartbeats 4000000 in
set_option maxRecDepth 1000000 in
theorem key_walk (vals : List (Nat × Nat × ByteArray)) (hv : ∀ v ∈ vals, v.1 < 100 ∧ v.2.1 < 100 ∧ v.2.2.size < 100) (hn : vals.length ≤ 1000000) (ab ao cap : Nat) (w : World)
    (hcell : ∀ (j : Nat) v, vals[j]? = some v → w.cell? ⟨ab, ao + j * 3, none⟩ = some (.int .i64 v.1) ∧ w.cell? ⟨ab, ao + j * 3 + 1, none⟩ = some (.int .i64 v.2.1) ∧ w.cell? ⟨ab, ao + j * 3 + 2, none⟩ = some (.string v.2.2)) (hab : ab < w.heap.size) :
    Calls Tryz.prog 109 #[.slice (some ⟨ab, ao, none⟩) vals.length cap] w fun e w' => e = .returned (.string ⟨(keyB vals).toArray⟩) ∧ Below w.heap.size w w' := by
  go_enter Tryz.func109, Tryz.ntmps109
  go_wp2
  go_loopw [10] (fun i wr => ∃ (k : Nat), i = .int .i64 k ∧ k ≤ vals.length ∧ Lib.IsBuilderF 157 5 w.heap.size w.heap.size (Lib.byteCells (keyB (vals.take k))) wr ∧ Below w.heap.size w wr) (fun i _ => vals.length - (intOf i).toNat)
  case atStart =>
    refine ⟨0, rfl, Nat.zero_le _, ?_, (Below.refl _ w).alloc (Nat.le_refl _) _⟩
    exact (Lib.IsBuilderF.of (Lib.fresh_isBuilder 157 5 w))
  case round =>
    obtain ⟨k, rfl, hk, hI, hbw⟩ := hrel
    have e : ∀ o, wr.cell? ⟨ab, o, none⟩ = w.cell? ⟨ab, o, none⟩ := fun o => World.cell?_of_block (hbw.block ab hab)
    by_cases hlt : k < vals.length
    · obtain ⟨v, hvk⟩ : ∃ v, vals[k]? = some v := ⟨vals[k], List.getElem?_eq_getElem hlt⟩
      obtain ⟨x0, x1, x2⟩ := hcell k v hvk
      rw [← e] at x0 x1 x2
      clear e
      have hvs := hv v (List.mem_of_getElem? hvk)
      have hlen : (keyB (vals.take k)).length ≤ 200000000 := by
        have := keyB_len (vals.take k) fun u hu => hv u (List.mem_of_mem_take hu)
        have h2 : (vals.take k).length ≤ 1000000 := by rw [List.length_take]; omega
        omega
      have HV : Hid (v.1 < 100 ∧ v.2.1 < 100 ∧ v.2.2.size < 100) := hvs
      have HL : Hid ((keyB (vals.take k)).length ≤ 200000000) := hlen
      clear hvs hlen
      go_wp2
      generalize hB1 : wr.heap.size = B1
      have hB2 : w.heap.size < B1 := by
        rw [← hB1]
        rcases hI with h | h <;> exact h.lt
      go_loopw [23] (fun i wi => ∃ m : Nat, i = .int .i64 m ∧ m ≤ 3 ∧ Lib.IsBuilderF 157 5 w.heap.size w.heap.size (Lib.byteCells (keyB (vals.take k) ++ part v m)) wi ∧ Below w.heap.size w wi ∧
        wi.heap[B1]? = some (.cells #[.int .i64 v.1, .int .i64 v.2.1, .string v.2.2] 90 (0, 0)) ∧ wi.heap[B1 + 1]? = some (.cells #[.int .i64 v.1, .int .i64 v.2.1, .int .i64 v.2.2.size] 3 (0, 0))) (fun i _ => 3 - (intOf i).toNat)
      case atStart =>
        refine ⟨0, rfl, by omega, ?_, ?_, ?_, ?_⟩
        · simpa [part] using (hI.alloc _).alloc _
        · exact (hbw.alloc (by omega) _).alloc (by simp; omega) _
        · rw [Lib.alloc_old _ _ _ (by simp; omega), ← hB1]
          exact heap_alloc_new _ _
        · have := heap_alloc_new (wr.alloc (.cells #[.int .i64 v.1, .int .i64 v.2.1, .string v.2.2] 90)) (.cells #[.int .i64 v.1, .int .i64 v.2.1, .int .i64 v.2.2.size] 3)
          simpa [hB1] using this
      case round =>
        obtain ⟨m, rfl, hm, hI2, hb2, hv2, ha2⟩ := hrel
        by_cases hm3 : m < 3
        · have hx : num v m < 100 := by
            have h := HV.out
            match m with
            | 0 => exact h.1
            | 1 => exact h.2.1
            | m + 2 => exact h.2.2
          have y : wr.cell? ⟨B1 + 1, m, none⟩ = some (.int .i64 (num v m)) := by
            rw [Lib.cell_of_heap ha2]
            match m, hm3 with
            | 0, _ => rfl
            | 1, _ => rfl
            | 2, _ => rfl
          have hl : (Lib.byteCells (keyB (vals.take k) ++ part v m)).length + 1000 ≤ 140737488355328 := by
            have h1 := HL.out
            have h2 := part_len HV.out m
            rw [Lib.byteCells_length, List.length_append]
            omega
          have hd := digits_len hx
          go_wp2_with (first
            | (go_at_call 124; refine (Tryz.strconv_Itoa_small (num v m) hx _).mono ?_; rintro e w1 ⟨rfl, rfl⟩)
            | (go_at_call 123; refine (writeString w.heap.size w.heap.size _ _ _ hI2 (by simp only [ByteArray.size, List.size_toArray]; omega) hb2.size).mono ?_))
          rintro e w1 ⟨rfl, hI3, hb3, hk3⟩
          have hv3 := hk3 _ _ hv2 (by simp; omega) (by intro c fz hc; cases hc)
          have ha3 := hk3 _ _ ha2 (by simp; omega) (by intro c fz hc; cases hc)
          have hb4 := hb2.trans hb3
          go_wp2_with (go_at_call 125; refine (writeByte w.heap.size w.heap.size _ 32 _ (.inr hI3) (by simp only [List.length_append, Lib.strCells_length, ByteArray.size, List.size_toArray]; omega) hb4.size).mono ?_)
          rintro e w2 ⟨rfl, hI5, hb5, hk5⟩
          have hv5 := hk5 _ _ hv3 (by simp; omega) (by intro c fz hc; cases hc)
          have ha5 := hk5 _ _ ha3 (by simp; omega) (by intro c fz hc; cases hc)
          go_wp2
          go_roundw
          case rel =>
            refine ⟨m + 1, by go_num, by omega, ?_, hb4.trans hb5, hv5, ha5⟩
            refine .inr ?_
            have e1 : Lib.byteCells (keyB (vals.take k) ++ part v (m + 1)) = Lib.byteCells (keyB (vals.take k) ++ part v m) ++ Lib.strCells ⟨(Lib.decDigits (num v m)).toArray⟩ ++ [.int .u8 32] := by
              rw [show Lib.strCells ⟨(Lib.decDigits (num v m)).toArray⟩ = Lib.byteCells (Lib.decDigits (num v m)) from rfl]
              simp only [part, ← List.append_assoc, Lib.byteCells_append]
              rfl
            rw [e1]
            exact hI5
          case measure => simp [intOf]; omega
        · have hm4 : m = 3 := by omega
          subst hm4
          have z : wr.cell? ⟨B1, 2, none⟩ = some (.string v.2.2) := by
            rw [Lib.cell_of_heap hv2]
            rfl
          have hl : (Lib.byteCells (keyB (vals.take k) ++ part v 3)).length + v.2.2.size ≤ 140737488355328 := by
            have h1 := HL.out
            have h2 := part_len HV.out 3
            have h3 := HV.out.2.2
            rw [Lib.byteCells_length, List.length_append]
            omega
          go_wp2_with (go_at_call 123; refine (writeString w.heap.size w.heap.size _ _ _ hI2 hl hb2.size).mono ?_)
          rintro e w1 ⟨rfl, hI3, hb3, hk3⟩
          go_wp2
          go_roundw
          case rel =>
            refine ⟨k + 1, by go_num, by omega, ?_, hb2.trans hb3⟩
            refine .inr ?_
            rw [keyB_take hvk, valB, ← List.append_assoc, Lib.byteCells_append]
            exact hI3
          case measure => simp [intOf]; omega
    · go_wp2_with (go_at_call 126; refine (Tryz.Builder_String_any_k w.heap.size w.heap.size _ _ hI hbw.size).mono ?_)
      rintro e W1 ⟨rfl, _, b1, _⟩
      go_wp2
      go_ret
      have hke : k = vals.length := by omega
      subst hke
      rw [List.take_length]
      exact ⟨rfl, hbw.trans b1⟩
end Go.Proofs.Kb
