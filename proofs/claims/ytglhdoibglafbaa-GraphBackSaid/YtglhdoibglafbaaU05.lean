/- Walks of help's Own, Kept at edges and at numbers. -/
import Derived.Test.YtglhdoibglafbaaU04
import Derived.Deep.OwnRows
import Derived.Laws.CopyRow
import Derived.Laws.Externs
import Derived.Lib.Overlaps
import Derived.Lib.AppendZerosOnto
import Derived.Lib.AppendZeros
namespace Go.Proofs.Ytglhdoibglafbaa
open Go Go.RowKit
set_option maxRecDepth 100000
set_option linter.unusedVariables false
set_option linter.unusedSimpArgs false

/-- The copy with room behind it: a block of the call's own, whole. -/
def OwnP {α : Type} (T : TypeId) (cells : List α → List Value) (l : List α) (f : α) (w : World) (e : Ending) (w' : World) : Prop :=
  ∃ g, e = .returned (.slice (some ⟨g, 0, none⟩) l.length (l.length + 3)) ∧ w.heap.size ≤ g ∧ w'.heap[g]? = some (.cells (cells (l ++ List.replicate 3 f)).toArray T (0, 0)) ∧ Below w.heap.size w w'

theorem heap_lt0 {w : World} {g : Nat} {o : Obj} (h : w.heap[g]? = some o) : g < w.heap.size := by
  rcases Nat.lt_or_ge g w.heap.size with hl | hl
  · exact hl
  · rw [Array.getElem?_eq_none hl] at h; cases h
theorem blkc0 {w : World} {g : Nat} {cs : Array Value} {T : TypeId} (h : w.heap[g]? = some (.cells cs T (0, 0))) (i : Nat) (v : Value) (hv : cs[i]? = some v) : w.cell? ⟨g, i, none⟩ = some v := (cell_of_row w g i cs T (0, 0) h).trans hv
theorem blkf0 {w : World} {g : Nat} {cs : Array Value} {T : TypeId} (h : w.heap[g]? = some (.cells cs T (0, 0))) (i : Nat) : w.frozen? ⟨g, i, none⟩ = false := by simp [World.frozen?, h]
theorem blk_put {w : World} {g : Nat} {cs : List Value} {T : TypeId} (h : w.heap[g]? = some (.cells cs.toArray T (0, 0))) (i : Nat) (v : Value) : (w.setCell ⟨g, i, none⟩ v).heap[g]? = some (.cells (cs.set i v).toArray T (0, 0)) := by
  simp [World.setCell, Array.getElem?_modify, h]

theorem fill_step {α : Type} (l : List α) (f z : α) (j : Nat) (hj : j < 3) : (l ++ (List.replicate j f ++ List.replicate (3 - j) z)).set (l.length + j) f = l ++ (List.replicate (j + 1) f ++ List.replicate (3 - (j + 1)) z) := by
  rw [List.set_append_right _ _ (by omega), show l.length + j - l.length = j by omega]
  congr 1
  match j, hj with
  | 0, _ => rfl
  | 1, _ => rfl
  | 2, _ => rfl
theorem fill_get {α : Type} (l : List α) (f z : α) (j : Nat) (hj : j < 3) : (l ++ (List.replicate j f ++ List.replicate (3 - j) z))[l.length + j]? = some z := by
  rw [List.getElem?_append_right (by omega), show l.length + j - l.length = j by omega]
  match j, hj with
  | 0, _ => rfl
  | 1, _ => rfl
  | 2, _ => rfl


set_option maxHeartbeats 2000000 in
theorem ownE (l : List (Int × Int)) (f1 f2 : Int) (A : Option Addr) (c : Nat) (w : World) (hr : Reads w A (pcells l)) (hc : l.length ≤ c) (hm : l.length ≤ 1000000) :
    Calls Try.prog 26 #[.slice A l.length c, .agg #[.int .i64 f1, .int .i64 f2]] w (OwnP 28 pcells l (f1, f2) w) := by
  obtain ⟨i0, hi0, hz0, hs0, hb0⟩ := info_parts (EI_edge).hinfo
  have hmk : ∀ w0 : World, (Instr.makeSlice 23 (.int .i64 0) (.int .i64 ((l.length : Int) + 3))).run Try.prog w0 = .ok (.slice (some ⟨w0.heap.size, 0, none⟩) 0 (l.length + 3)) (w0.alloc (.cells (pcells (List.replicate (l.length + 3) (0, 0))).toArray 28)) := fun w0 => by
    have h := run_make (P := Try.prog) w0 23 28 i0 (.agg #[.int .i64 0, .int .i64 0]) (EI_edge).ht hi0 hz0 .i64 .i64 0 ((l.length : Int) + 3) (by omega) (by omega) (by rw [hb0]; omega) (by omega)
    rw [h, hs0, show ((l.length : Int) + 3).toNat = l.length + 3 by omega, ← madeP]
    try rfl
  have HMK := Lib.hid hmk
  clear hmk
  go_enter Try.func26, Try.ntmps26
  have hmk := HMK.out
  go_upto_region 2 with fail
  clear hmk HMK hi0 hz0 hs0 hb0
  generalize hW : (w.alloc (Obj.cells #[Value.int .i64 f1, Value.int .i64 f2] 28)).alloc (Obj.cells (pcells (List.replicate (l.length + 3) (0, 0))).toArray 28) = W
  have hbW : Below w.heap.size w W := by rw [← hW]; (repeat (first | with_reducible exact Below.refl _ _ | with_reducible assumption | with_reducible refine below_drewN0 ?_ _ | with_reducible refine Below.drew ?_ | with_reducible refine Below.alloc ?_ ?_ _ | with_reducible refine Below.setCell ?_ ?_ _ | go_size | exact Below.size (by assumption)))
  have hF : W.heap[w.heap.size]? = some (.cells #[Value.int .i64 f1, Value.int .i64 f2] 28 (0, 0)) := by rw [← hW]; exact heap_old (heap_alloc_new w _)
  have hG : W.heap[w.heap.size + 1]? = some (.cells (pcells (List.replicate (l.length + 3) (0, 0))).toArray 28 (0, 0)) := by
    rw [← hW]
    have h := heap_alloc_new (w.alloc (Obj.cells #[Value.int .i64 f1, Value.int .i64 f2] 28)) (Obj.cells (pcells (List.replicate (l.length + 3) (0, 0))).toArray 28)
    rwa [World.size_alloc] at h
  have hrW := hr.below hbW
  have HF := Lib.hid hF
  have HG := Lib.hid hG
  clear hW hF hG hr
  have hll : (pcells l).length = l.length * 2 := by simp [pcells_length]; try omega
  have HLL := Lib.hid hll
  clear hll
  have i1 : (l.length : Int) + 3 ≤ ((l.length + 3 : Nat) : Int) := by omega
  have i2 : (0 : Int) ≤ (l.length : Int) + 3 := by omega
  have i3 : ((l.length : Int) + 3).toNat = l.length + 3 := by omega
  go_upto_region 4 with (first
    | (at_builtin; go_loud (
       refine wpList_room EI_edge rfl (.tmp 12) (.tmp 13) rfl (w.heap.size + 1) (pcells (List.replicate (l.length + 3) (0, 0))) 0 (l.length + 3) rfl HG.out ?_ A l.length c (pcells l) rfl hrW HLL.out (pcells_one l) ?_ ?_
       · simp [pcells_length]; try omega
       · omega
       intro w2 hG2 hg2
       have hb2 : Below w.heap.size w w2 := hbW.grown hg2 hbW.size (fun k hk => by cases hk; omega)
       have hF2 := Lib.hid ((hg2.block w.heap.size (heap_lt0 HF.out) (by simp)).trans HF.out)
       have HG2 : Hid (w2.heap[w.heap.size + 1]? = some (.cells (pcells (l ++ (List.replicate 0 (f1, f2) ++ List.replicate (3 - 0) (0, 0)))).toArray 28 (0, 0))) := by
         unfold Hid
         rw [hG2]
         simp only [Nat.zero_mul, List.take_zero, List.nil_append, Nat.zero_add, List.replicate_zero]
         rw [pcells_drop0, List.drop_replicate, show l.length + 3 - l.length = 3 by omega, pcells_append]
       clear hG2)))
  go_wp2_with fail
  clear hrW hbW
  go_loopw [7] (fun i wr => ∃ j : Nat, j ≤ 3 ∧ i = .int .i64 ((l.length + j : Nat) : Int) ∧ Hid (wr.heap[w.heap.size]? = some (.cells #[Value.int .i64 f1, Value.int .i64 f2] 28 (0, 0))) ∧ Hid (wr.heap[w.heap.size + 1]? = some (.cells (pcells (l ++ (List.replicate j (f1, f2) ++ List.replicate (3 - j) (0, 0)))).toArray 28 (0, 0))) ∧ Below w.heap.size w wr) (fun i _ => l.length + 3 - (intOf i).toNat)
  case atStart => exact ⟨0, by omega, rfl, hF2, HG2, hb2⟩
  case round =>
    clear hF2 HG2 hb2 hg2
    obtain ⟨j, hj, rfl, hF, hG, hb⟩ := hrel
    by_cases hlt : j < 3
    · have hfc := fun i v => blkc0 hF.out i v
      have hlF := heap_lt0 hF.out
      have hlG := heap_lt0 hG.out
      (have hx0 := hfc 0 _ rfl
       have hx1 := hfc 1 _ rfl
       have hpg := pcells_get _ _ _ (fill_get l (f1, f2) ((0 : Int), (0 : Int)) j hlt)
       rw [Nat.mul_comm] at hpg
       have hy0 := blkc0 hG.out _ _ (List.getElem?_toArray.trans hpg.1)
       have hy1 := blkc0 hG.out _ _ (List.getElem?_toArray.trans hpg.2)
       have hz0 := blkf0 hG.out ((l.length + j) * 2)
       have hz1 := blkf0 hG.out ((l.length + j) * 2 + 1)
       have j1 : ((l.length + j : Nat) : Int) < ((l.length + 3 : Nat) : Int) := by omega
       have j2 : l.length + j < l.length + 3 := by omega
       clear hpg hfc
       go_wp2_with fail)
      go_roundw
      case rel =>
        refine ⟨j + 1, by omega, by go_num, ?_, ?_, by (repeat (first | with_reducible exact Below.refl _ _ | with_reducible assumption | with_reducible refine below_drewN0 ?_ _ | with_reducible refine Below.drew ?_ | with_reducible refine Below.alloc ?_ ?_ _ | with_reducible refine Below.setCell ?_ ?_ _ | go_size | exact Below.size (by assumption)))⟩
        · exact heap_far (heap_far hF.out (by dsimp only; omega) _) (by dsimp only; omega) _
        · (have h9 := blk_put (blk_put hG.out ((l.length + j) * 2) (.int .i64 f1)) ((l.length + j) * 2 + 1) (.int .i64 f2)
           have h8 := fill_get l (f1, f2) ((0 : Int), (0 : Int)) j hlt
           rw [pcells_set0 _ _ _ _ f1 h8, pcells_set1 _ _ f1 0 f2 (by rw [List.getElem?_set_self (List.getElem?_eq_some_iff.1 h8).1]), List.set_set, fill_step _ _ _ _ hlt] at h9
           exact h9)
      case measure => simp [intOf]; omega
    · obtain rfl : j = 3 := by omega
      go_wp2_with fail
      go_ret
      refine ⟨_, rfl, by omega, ?_, hb⟩
      have h9 := hG.out
      simpa using h9

theorem kept_get {α : Type} (l : List α) (f : α) (j : Nat) (hj : j < 3) : (l ++ List.replicate 3 f)[l.length + j]? = some f := by
  rw [List.getElem?_append_right (by omega), show l.length + j - l.length = j by omega]
  match j, hj with
  | 0, _ => rfl
  | 1, _ => rfl
  | 2, _ => rfl
theorem reads_blk {w : World} {g : Nat} {cs : List Value} {T : TypeId} (h : w.heap[g]? = some (.cells cs.toArray T (0, 0))) : Reads w (some ⟨g, 0, none⟩) cs :=
  .inr ⟨g, 0, rfl, heap_lt0 h, fun j v hj => by rw [Nat.zero_add]; exact blkc0 h j v (List.getElem?_toArray.trans hj)⟩
theorem Reads.front {w : World} {A : Option Addr} {cs ds : List Value} (h : Reads w A (cs ++ ds)) : Reads w A cs := by
  rcases h with h | ⟨b, o, rfl, hb, hc⟩
  · exact .inl (by simp at h; exact h.1)
  · exact .inr ⟨b, o, rfl, hb, fun j v hj => hc j v (by rw [List.getElem?_append_left (List.getElem?_eq_some_iff.1 hj).1]; exact hj)⟩

set_option maxHeartbeats 2000000 in
theorem keptE (l : List (Int × Int)) (f1 f2 : Int) (g : Nat) (A : Option Addr) (c : Nat) (w : World) (hr : Reads w A (pcells l)) (hc : l.length ≤ c) (hm : l.length ≤ 1000000) (hG : w.heap[g]? = some (.cells (pcells (l ++ List.replicate 3 (f1, f2))).toArray 28 (0, 0))) :
    Calls Try.prog 30 #[.slice (some ⟨g, 0, none⟩) l.length (l.length + 3), .slice A l.length c, .agg #[.int .i64 f1, .int .i64 f2]] w fun e w' => e = .returned (.bool true) ∧ Below w.heap.size w w' := by
  have hrg : Reads w (some ⟨g, 0, none⟩) (pcells l) := by
    have := reads_blk hG
    rw [pcells_append] at this
    exact this.front
  have hlg := heap_lt0 hG
  have HP := fun W hR1 hR2 => sameE_plain l l (some ⟨g, 0, none⟩) A (l.length + 3) c W hR1 hR2 (by omega) hc (by omega) (by omega)
  simp only [decide_true] at HP
  have HG := Lib.hid hG
  clear hG
  have i0 : decide (((l.length + 3 : Nat) : Int) < (l.length : Int) + 3) = false := decide_eq_false (by omega)
  have i1 : (l.length : Int) + 3 ≤ ((l.length + 3 : Nat) : Int) := by omega
  have i2 : (0 : Int) ≤ (l.length : Int) + 3 := by omega
  have i3 : ((l.length : Int) + 3).toNat = l.length + 3 := by omega
  go_enter Try.func30, Try.ntmps30
  go_wp2_with (first
    | (go_at_call 51; refine (HP _ (hrg.below ?_) (hr.below ?_)).mono ?_; (repeat (first | with_reducible exact Below.refl _ _ | with_reducible assumption | with_reducible refine below_drewN0 ?_ _ | with_reducible refine Below.drew ?_ | with_reducible refine Below.alloc ?_ ?_ _ | with_reducible refine Below.setCell ?_ ?_ _ | go_size | exact Below.size (by assumption))); (repeat (first | with_reducible exact Below.refl _ _ | with_reducible assumption | with_reducible refine below_drewN0 ?_ _ | with_reducible refine Below.drew ?_ | with_reducible refine Below.alloc ?_ ?_ _ | with_reducible refine Below.setCell ?_ ?_ _ | go_size | exact Below.size (by assumption))); rintro e w1 ⟨rfl, hb1⟩
       have hF := Lib.hid ((hb1.block w.heap.size (by simp)).trans (heap_alloc_new w (Obj.cells #[Value.int .i64 f1, Value.int .i64 f2] 28)))
       have hG1 := Lib.hid ((hb1.block g (by simp; omega)).trans (heap_old HG.out))
       have hbw : Below w.heap.size w w1 := Below.trans (by (repeat (first | with_reducible exact Below.refl _ _ | with_reducible assumption | with_reducible refine below_drewN0 ?_ _ | with_reducible refine Below.drew ?_ | with_reducible refine Below.alloc ?_ ?_ _ | with_reducible refine Below.setCell ?_ ?_ _ | go_size | exact Below.size (by assumption)))) (hb1.mono (by simp))
       clear hb1))
  go_loopw [8] (fun i wr => ∃ j : Nat, j ≤ 3 ∧ i = .int .i64 ((l.length + j : Nat) : Int) ∧ Hid (Below w1.heap.size w1 wr)) (fun i _ => l.length + 3 - (intOf i).toNat)
  case atStart => exact ⟨0, by omega, rfl, Below.refl _ _⟩
  case round =>
    obtain ⟨j, hj, rfl, hb⟩ := hrel
    have hF' := (hb.out.block w.heap.size (heap_lt0 hF.out)).trans hF.out
    have hG' := (hb.out.block g (heap_lt0 hG1.out)).trans hG1.out
    by_cases hlt : j < 3
    · obtain ⟨x0, x1, _, _, _⟩ := blk2 hF'
      have hpg := pcells_get _ _ _ (kept_get l (f1, f2) j hlt)
      rw [Nat.mul_comm] at hpg
      have hy0 := blkc0 hG' _ _ (List.getElem?_toArray.trans hpg.1)
      have hy1 := blkc0 hG' _ _ (List.getElem?_toArray.trans hpg.2)
      have j1 : ((l.length + j : Nat) : Int) < ((l.length + 3 : Nat) : Int) := by omega
      have j2 : l.length + j < l.length + 3 := by omega
      clear hpg hF' hG'
      go_wp2_with fail
      go_quiet (fail)
      go_wp2_with fail
      go_roundw
      case rel => exact ⟨j + 1, by omega, by go_num, hb.out.trans (by (repeat (first | with_reducible exact Below.refl _ _ | with_reducible assumption | with_reducible refine below_drewN0 ?_ _ | with_reducible refine Below.drew ?_ | with_reducible refine Below.alloc ?_ ?_ _ | with_reducible refine Below.setCell ?_ ?_ _ | go_size | exact Below.size (by assumption))))⟩
      case measure => simp [intOf]; omega
    · obtain rfl : j = 3 := by omega
      clear hF' hG'
      go_wp2_with fail
      go_ret
      exact ⟨rfl, hbw.trans (hb.out.mono hbw.size)⟩

end Go.Proofs.Ytglhdoibglafbaa

/- copy and clear on a row known whole, at elements of several cells; an own row taken apart and put together (no program in sight). -/
namespace Go.Proofs.Ytglhdoibglafbaa
open Go Go.RowKit
set_option maxRecDepth 100000
set_option linter.unusedVariables false
set_option linter.unusedSimpArgs false

section
variable {P : Program} {t e : TypeId} {z : Value} {size bytes : Nat}

theorem run_copyN (E : EI P t e z size bytes) (w : World) (ty : TypeId) (g o dLen dCap : Nat) (a : Addr) (sLen sCap : Nat) (cur : List Value) (T : TypeId) (cs : List Value) (k : Nat) (hk : k = Nat.min sLen dLen) (hcs : cs.length = k * size)
    (hg : w.heap[g]? = some (.cells cur.toArray T (0, 0))) (hsrc : ∀ j v, cs[j]? = some v → w.cell? (a.add j) = some v) (hfit : o + cs.length ≤ cur.length) (h1 : ∀ v ∈ cs, v.oneCell' = true) :
    (Builtin.copy_ #[t, t] ty #[.slice (some ⟨g, o, none⟩) dLen dCap, .slice (some a) sLen sCap]).run P w =
      .ok (goInt k) (w.setRow g (cur.take o ++ cs ++ cur.drop (o + cs.length)).toArray) := by
  obtain ⟨i, hi, hz, hsize, hbytes⟩ := info_parts E.hinfo
  have hl := run_loadCells_list (P := P) w a cs hsrc
  have hst := run_storeCells_at P g o T cs 0 cur.toArray w hg (by simpa using hfit) h1
  simp only [Nat.add_zero] at hst
  simp [Builtin.copy_, run_underlying E.ht, Builtin.lenOf, Builtin.firstCells, sizeOf, typeInfo, hi, hsize, ← hk, ← hcs, hl, hst]

theorem wpList_copyN (E : EI P t e z size bytes) {w : World} {ops : Array Oper} {rest : List Oper} {o : Oper} {a : Act} {Q : Exit → Act → World → Prop} (hgd : o.guard = none) (s x : Operand)
    (ho : o.op = .call { callee := .builtin .copy, args := #[s, x], argTypes := #[t, t] })
    (g off dLen dCap : Nat) (ad : Addr) (sLen sCap : Nat) (hs : a.eval s = .slice (some ⟨g, off, none⟩) dLen dCap) (hx : a.eval x = .slice (some ad) sLen sCap) (cur : List Value) (T : TypeId) (cs : List Value) (k : Nat) (hk : k = Nat.min sLen dLen) (hcs : cs.length = k * size)
    (hg : w.heap[g]? = some (.cells cur.toArray T (0, 0))) (hsrc : ∀ j v, cs[j]? = some v → w.cell? (ad.add j) = some v) (hfit : off + cs.length ≤ cur.length) (h1 : ∀ v ∈ cs, v.oneCell' = true)
    (h : ∀ w', w'.heap[g]? = some (.cells (cur.take off ++ cs ++ cur.drop (off + cs.length)).toArray T (0, 0)) → w.grownBy w' (some g) → wpList P ops Q rest (a.put o.dst (goInt k)) w') : wpList P ops Q (o :: rest) a w :=
  wpList_plain hgd fun _ hK => by
    have hrun := run_copyN E w o.type g off dLen dCap ad sLen sCap cur T cs k hk hcs hg hsrc hfit h1
    unfold Oper.wp execOp
    simp only [ho, resolve, invoke, builtin, Sem.run_bind, Sem.run_pure, Result.andThen_ok, List.map_toArray, List.map_cons, List.map_nil, hs, hx, hrun]
    exact hK _ _ (h _ (setRow_heap w g cur.toArray _ T _ hg) ⟨rfl, rfl, rfl, by simp [World.setRow], fun k hk hne => setRow_other w g k _ (fun e => hne (by simp [e]))⟩)

theorem step_copyN (E : EI P t e z size bytes) {w : World} {ops : Array Oper} {o : Oper} {a : Act} {K : Act → World → Prop} {Q : Exit → Act → World → Prop} {F : Prop} (hgd : o.guard = none) (s x : Operand)
    (ho : o.op = .call { callee := .builtin .copy, args := #[s, x], argTypes := #[t, t] })
    (g off dLen dCap : Nat) (ad : Addr) (sLen sCap : Nat) (hs : a.eval s = .slice (some ⟨g, off, none⟩) dLen dCap) (hx : a.eval x = .slice (some ad) sLen sCap) (cur : List Value) (T : TypeId) (cs : List Value) (k : Nat) (hk : k = Nat.min sLen dLen) (hcs : cs.length = k * size)
    (hg : w.heap[g]? = some (.cells cur.toArray T (0, 0))) (hsrc : ∀ j v, cs[j]? = some v → w.cell? (ad.add j) = some v) (hfit : off + cs.length ≤ cur.length) (h1 : ∀ v ∈ cs, v.oneCell' = true)
    (h : ∀ w', w'.heap[g]? = some (.cells (cur.take off ++ cs ++ cur.drop (off + cs.length)).toArray T (0, 0)) → w.grownBy w' (some g) → K (a.put o.dst (goInt k)) w') :
    if Region.wanted o (yielded ops a.tmps) = true then Oper.wp P o a w K Q else F := by
  have hw : Region.wanted o (yielded ops a.tmps) = true := by simp [Region.wanted, hgd]
  rw [if_pos hw]
  have hrun := run_copyN E w o.type g off dLen dCap ad sLen sCap cur T cs k hk hcs hg hsrc hfit h1
  unfold Oper.wp execOp
  simp only [ho, resolve, invoke, builtin, Sem.run_bind, Sem.run_pure, Result.andThen_ok, List.map_toArray, List.map_cons, List.map_nil, hs, hx, hrun]
  exact h _ (setRow_heap w g cur.toArray _ T _ hg) ⟨rfl, rfl, rfl, by simp [World.setRow], fun k hk hne => setRow_other w g k _ (fun e => hne (by simp [e]))⟩

theorem step_room (E : EI P t e z size bytes) {w : World} {ops : Array Oper} {o : Oper} {a : Act} {K : Act → World → Prop} {Q : Exit → Act → World → Prop} {F : Prop} (hgd : o.guard = none) (s x : Operand)
    (ho : o.op = .call { callee := .builtin .append, args := #[s, x], argTypes := #[t, t] })
    (g : Nat) (cur : List Value) (n cap : Nat) (hs : a.eval s = .slice (some ⟨g, 0, none⟩) n cap) (hg : w.heap[g]? = some (.cells cur.toArray e (0, 0))) (hcap : cur.length = cap * size)
    (A : Option Addr) (m c : Nat) (news : List Value) (hx : a.eval x = .slice A m c) (hr : Reads w A news) (hl : news.length = m * size) (h1 : ∀ u ∈ news, u.oneCell' = true) (hroom : n + m ≤ cap)
    (h : ∀ w', w'.heap[g]? = some (.cells (cur.take (n * size) ++ news ++ cur.drop ((n + m) * size)).toArray e (0, 0)) → w.grownBy w' (some g) → K (a.put o.dst (.slice (some ⟨g, 0, none⟩) (n + m) cap)) w') :
    if Region.wanted o (yielded ops a.tmps) = true then Oper.wp P o a w K Q else F := by
  have hw : Region.wanted o (yielded ops a.tmps) = true := by simp [Region.wanted, hgd]
  rw [if_pos hw]
  obtain ⟨w', hrun, h2, h3⟩ := run_room E w o.type g cur n cap hg hcap A m c news hr hl h1 hroom
  unfold Oper.wp execOp
  simp only [ho, resolve, invoke, builtin, Sem.run_bind, Sem.run_pure, Result.andThen_ok, List.map_toArray, List.map_cons, List.map_nil, hs, hx, hrun]
  exact h w' h2 h3
end

/-- An own row that is not empty, taken apart. -/
theorem own_open {w : World} {base e size : Nat} {v : Value} {n : Nat} {xs : List Value} (h : w.ownsRow base e size v n xs) (hn : 0 < n) :
    ∃ (g c : Nat) (cur : List Value), v = .slice (some ⟨g, 0, none⟩) n c ∧ base ≤ g ∧ g < w.heap.size ∧ w.heap[g]? = some (.cells cur.toArray e (0, 0)) ∧ n ≤ c ∧ c ≤ maxLen ∧ cur.length = c * size ∧ cur.take (n * size) = xs := by
  obtain ⟨h0, h2⟩ := h
  rcases h2 with ⟨rfl, rfl⟩ | ⟨g, cap, cur, rfl, hg, hh, hnc, hm, hsz, htk⟩
  · omega
  · refine ⟨g, cap, cur.toList, rfl, hg, ?_, by simpa using hh, hnc, hm, by simpa using hsz, htk⟩
    rcases Nat.lt_or_ge g w.heap.size with hl | hl
    · exact hl
    · rw [Array.getElem?_eq_none hl] at hh; cases hh
/-- .. and put together. -/
theorem own_shut {w : World} {base e size g n c : Nat} {cur xs : List Value} (hb : base ≤ g) (hg : w.heap[g]? = some (.cells cur.toArray e (0, 0))) (hnc : n ≤ c) (hm : c ≤ maxLen) (hl : cur.length = c * size) (hx : cur.take (n * size) = xs) :
    w.ownsRow base e size (.slice (some ⟨g, 0, none⟩) n c) n xs := by
  refine ⟨?_, .inr ⟨g, c, cur.toArray, rfl, hb, hg, hnc, hm, by simpa using hl, by simpa using hx⟩⟩
  have : n * size ≤ c * size := Nat.mul_le_mul_right _ hnc
  rw [← hx, List.length_take]
  omega
end Go.Proofs.Ytglhdoibglafbaa
