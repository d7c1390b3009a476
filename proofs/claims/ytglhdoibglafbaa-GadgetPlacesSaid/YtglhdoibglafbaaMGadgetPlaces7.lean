/- Walks of help's Plain, Own, Kept and of slices.Clone at entries. -/
import Derived.Test.YtglhdoibglafbaaMGadgetPlaces6
import Derived.Shelf.SlSortCmp.InsertionK
import Derived.Shelf.SlSortCmp.WholeK
namespace Go.Proofs.Ytglhdoibglafbaa
open Go Go.RowKit
set_option maxRecDepth 100000
set_option linter.unusedVariables false

theorem eqN (a b c d : Int) (w : World) : Calls Try.prog 82 #[.agg #[.int .i64 a, .int .i64 b], .agg #[.int .i64 c, .int .i64 d]] w fun e w' => e = .returned (.bool (decide ((a, b) = (c, d)))) ∧ Below w.heap.size w w' := by
  by_cases h : a = c
  · subst h
    by_cases h2 : b = d
    · subst h2
      go_enter Try.func82, Try.ntmps82
      go_wp2
      go_ret
      exact ⟨by simp, by (repeat (first | with_reducible exact Below.refl _ _ | with_reducible assumption | with_reducible refine below_drewN0 ?_ _ | with_reducible refine Below.drew ?_ | with_reducible refine Below.alloc ?_ ?_ _ | with_reducible refine Below.setCell ?_ ?_ _ | go_size | exact Below.size (by assumption)))⟩
    · go_enter Try.func82, Try.ntmps82
      go_wp2
      go_ret
      exact ⟨by simp [h2], by (repeat (first | with_reducible exact Below.refl _ _ | with_reducible assumption | with_reducible refine below_drewN0 ?_ _ | with_reducible refine Below.drew ?_ | with_reducible refine Below.alloc ?_ ?_ _ | with_reducible refine Below.setCell ?_ ?_ _ | go_size | exact Below.size (by assumption)))⟩
  · go_enter Try.func82, Try.ntmps82
    go_wp2
    go_ret
    exact ⟨by simp [h], by (repeat (first | with_reducible exact Below.refl _ _ | with_reducible assumption | with_reducible refine below_drewN0 ?_ _ | with_reducible refine Below.drew ?_ | with_reducible refine Below.alloc ?_ ?_ _ | with_reducible refine Below.setCell ?_ ?_ _ | go_size | exact Below.size (by assumption)))⟩
theorem eqNP (x y : Int × Int) (w : World) : Calls Try.prog 82 #[.agg #[.int .i64 x.1, .int .i64 x.2], .agg #[.int .i64 y.1, .int .i64 y.2]] w fun e w' => e = .returned (.bool (decide (x = y))) ∧ Below w.heap.size w w' := eqN x.1 x.2 y.1 y.2 w
set_option maxHeartbeats 2000000 in
theorem sameN (l1 l2 : List (Int × Int)) (A1 A2 : Option Addr) (c1 c2 : Nat) (w : World) (h1 : Reads w A1 (pcells l1)) (h2 : Reads w A2 (pcells l2)) (hc1 : l1.length ≤ c1) (hc2 : l2.length ≤ c2) (hm1 : l1.length ≤ 4611686018427387903) (hm2 : l2.length ≤ 4611686018427387903) :
    Calls Try.prog 81 #[.slice A1 l1.length c1, .slice A2 l2.length c2, .func (.func 82) #[] #[]] w fun e w' => e = .returned (.bool (decide (l1 = l2))) ∧ Below w.heap.size w w' := by
  by_cases hl : l1.length = l2.length
  · have HD : ∀ k, (∀ i : Nat, i < k → l1[i]? = l2[i]?) → l1.length ≤ k → l1 = l2 := fun k h hk => by
      apply List.ext_getElem?
      intro i
      by_cases hi : i < l1.length
      · exact h i (by omega)
      · rw [List.getElem?_eq_none (by omega), List.getElem?_eq_none (by omega)]
    have hl2 : ((l1.length : Int) != (l2.length : Int)) = false := by simp [hl]
    have HL := Lib.hid hl
    clear hl
    go_enter Try.func81, Try.ntmps81
    go_wp2_with fail
    go_loopw [7] (fun i wr => ∃ k : Nat, k ≤ l1.length ∧ i = .int .i64 k ∧ Hid (∀ i : Nat, i < k → l1[i]? = l2[i]?) ∧ Below w.heap.size w wr) (fun i _ => l1.length - (intOf i).toNat)
    case atStart => exact ⟨0, Nat.zero_le _, rfl, fun i h => by omega, Below.refl _ _⟩
    case round =>
      obtain ⟨k, hk, rfl, hall, hb⟩ := hrel
      have hbs := hb.size
      by_cases hlt : k < l1.length
      · have hk2 : (k : Int) < (l2.length : Int) := by have := HL.out; omega
        have hk2' : k < l2.length := by have := HL.out; omega
        (obtain ⟨x, hx⟩ : ∃ x, l1[k]? = some x := ⟨l1[k], by simp [hlt]⟩
         obtain ⟨y, hy⟩ : ∃ y, l2[k]? = some y := ⟨l2[k], by simp⟩
         obtain ⟨b1, o1, rfl, hb1, e1, e1'⟩ := (h1.below hb).pair' k x hx
         obtain ⟨b2, o2, rfl, hb2, e2, e2'⟩ := (h2.below hb).pair' k y hy
         have hdum : True := trivial)
        have HX := Lib.hid hx
        have HY := Lib.hid hy
        clear hx hy h1 h2
        by_cases hxy : x = y
        · subst hxy
          have HD9 := Lib.hid HD
          clear HD
          go_wp2_with fail
          (refine wp_quiet_tail 9 (by kernel_rfl) (by kernel_rfl) ?_
           simp only [List.take_succ_cons, List.take_zero, List.drop_succ_cons, List.drop_zero]
           repeat (go_big_quiet_step (fail))
           refine wpQuiet_nil ?_
           intro _ hw'
           obtain ⟨nq, hw''⟩ := hw'
           subst hw'')
          go_wp2_with (go_at_call 82; refine (eqNP _ _ _).mono ?_; simp only [decide_true]; rintro e w1 ⟨rfl, hb1⟩)
          go_roundw
          case rel => exact ⟨k + 1, by omega, by go_num, fun i hi => (by
            by_cases h9 : i = k
            · subst h9; rw [HX.out, HY.out]
            · exact hall.out i (by omega)), hb.trans (Below.trans (by (repeat (first | with_reducible exact Below.refl _ _ | with_reducible assumption | with_reducible refine below_drewN0 ?_ _ | with_reducible refine Below.drew ?_ | with_reducible refine Below.alloc ?_ ?_ _ | with_reducible refine Below.setCell ?_ ?_ _ | go_size | exact Below.size (by assumption)))) (hb1.mono (by simp; try omega)))⟩
          case measure => simp [intOf]; omega
        · have hne : decide (l1 = l2) = false := decide_eq_false (fun h => by
            have := HX.out
            rw [h, HY.out] at this
            exact hxy (by simpa using this.symm))
          have HNE := Lib.hid hne
          have hd := decide_eq_false hxy
          have HD9 := Lib.hid HD
          clear HD hxy hne
          go_wp2_with fail
          (refine wp_quiet_tail 9 (by kernel_rfl) (by kernel_rfl) ?_
           simp only [List.take_succ_cons, List.take_zero, List.drop_succ_cons, List.drop_zero]
           repeat (go_big_quiet_step (fail))
           refine wpQuiet_nil ?_
           intro _ hw'
           obtain ⟨nq, hw''⟩ := hw'
           subst hw'')
          go_wp2_with (go_at_call 82; refine (eqNP _ _ _).mono ?_; simp only [hd]; rintro e w1 ⟨rfl, hb1⟩)
          go_ret
          exact ⟨by rw [HNE.out]; rfl, hb.trans (Below.trans (by (repeat (first | with_reducible exact Below.refl _ _ | with_reducible assumption | with_reducible refine below_drewN0 ?_ _ | with_reducible refine Below.drew ?_ | with_reducible refine Below.alloc ?_ ?_ _ | with_reducible refine Below.setCell ?_ ?_ _ | go_size | exact Below.size (by assumption)))) (hb1.mono (by simp; try omega)))⟩
      · have hne : decide (l1 = l2) = true := decide_eq_true (HD k hall.out (by omega))
        have HNE := Lib.hid hne
        clear HD hne
        go_wp2_with fail
        go_ret
        exact ⟨by rw [HNE.out]; rfl, hb⟩
  · have hl2 : ((l1.length : Int) != (l2.length : Int)) = true := by simp; omega
    have hne : decide (l1 = l2) = false := decide_eq_false (fun h => hl (by rw [h]))
    rw [hne]
    clear hne hl
    go_enter Try.func81, Try.ntmps81
    go_wp2_with fail
    go_ret
    exact ⟨rfl, Below.refl _ _⟩

theorem sameN_plain (l1 l2 : List (Int × Int)) (A1 A2 : Option Addr) (c1 c2 : Nat) (w : World) (h1 : Reads w A1 (pcells l1)) (h2 : Reads w A2 (pcells l2)) (hc1 : l1.length ≤ c1) (hc2 : l2.length ≤ c2) (hm1 : l1.length ≤ 4611686018427387903) (hm2 : l2.length ≤ 4611686018427387903) :
    Calls Try.prog 54 #[.slice A1 l1.length c1, .slice A2 l2.length c2] w fun e w' => e = .returned (.bool (decide (l1 = l2))) ∧ Below w.heap.size w w' := by
  have HS := sameN l1 l2 A1 A2 c1 c2 w h1 h2 hc1 hc2 hm1 hm2
  generalize decide (l1 = l2) = d at *
  clear h1 h2
  go_enter Try.func54, Try.ntmps54
  go_wp2_with (go_at_call 81; refine HS.mono ?_; rintro e w1 ⟨rfl, hb1⟩)
  go_ret
  exact ⟨rfl, hb1⟩

set_option maxHeartbeats 2000000 in
theorem ownN (l : List (Int × Int)) (f1 f2 : Int) (A : Option Addr) (c : Nat) (w : World) (hr : Reads w A (pcells l)) (hc : l.length ≤ c) (hm : l.length ≤ 1000000) :
    Calls Try.prog 53 #[.slice A l.length c, .agg #[.int .i64 f1, .int .i64 f2]] w (OwnP 39 pcells l (f1, f2) w) := by
  obtain ⟨i0, hi0, hz0, hs0, hb0⟩ := info_parts (EI_ent).hinfo
  have hmk : ∀ w0 : World, (Instr.makeSlice 34 (.int .i64 0) (.int .i64 ((l.length : Int) + 3))).run Try.prog w0 = .ok (.slice (some ⟨w0.heap.size, 0, none⟩) 0 (l.length + 3)) (w0.alloc (.cells (pcells (List.replicate (l.length + 3) (0, 0))).toArray 39)) := fun w0 => by
    have h := run_make (P := Try.prog) w0 34 39 i0 (.agg #[.int .i64 0, .int .i64 0]) (EI_ent).ht hi0 hz0 .i64 .i64 0 ((l.length : Int) + 3) (by omega) (by omega) (by rw [hb0]; omega) (by omega)
    rw [h, hs0, show ((l.length : Int) + 3).toNat = l.length + 3 by omega, ← madeP]
    try rfl
  have HMK := Lib.hid hmk
  clear hmk
  go_enter Try.func53, Try.ntmps53
  have hmk := HMK.out
  go_upto_region 2 with fail
  clear hmk HMK hi0 hz0 hs0 hb0
  generalize hW : (w.alloc (Obj.cells #[Value.int .i64 f1, Value.int .i64 f2] 39)).alloc (Obj.cells (pcells (List.replicate (l.length + 3) (0, 0))).toArray 39) = W
  have hbW : Below w.heap.size w W := by rw [← hW]; (repeat (first | with_reducible exact Below.refl _ _ | with_reducible assumption | with_reducible refine below_drewN0 ?_ _ | with_reducible refine Below.drew ?_ | with_reducible refine Below.alloc ?_ ?_ _ | with_reducible refine Below.setCell ?_ ?_ _ | go_size | exact Below.size (by assumption)))
  have hF : W.heap[w.heap.size]? = some (.cells #[Value.int .i64 f1, Value.int .i64 f2] 39 (0, 0)) := by rw [← hW]; exact heap_old (heap_alloc_new w _)
  have hG : W.heap[w.heap.size + 1]? = some (.cells (pcells (List.replicate (l.length + 3) (0, 0))).toArray 39 (0, 0)) := by
    rw [← hW]
    have h := heap_alloc_new (w.alloc (Obj.cells #[Value.int .i64 f1, Value.int .i64 f2] 39)) (Obj.cells (pcells (List.replicate (l.length + 3) (0, 0))).toArray 39)
    rwa [World.size_alloc] at h
  have hrW := hr.below hbW
  have HF := Lib.hid hF
  have HG := Lib.hid hG
  clear hW hF hG hr
  have hll : (pcells l).length = l.length * 2 := by simp [pcells_length]; try omega
  have HLL := Lib.hid hll
  clear hll
  have i1 : (l.length : Int) + 3 ≤ ((l.length + 3 : Nat) : Int) := by omega
  have i2 : (0 : Int) ≤ (l.length : Int) + 3 := by omega
  have i3 : ((l.length : Int) + 3).toNat = l.length + 3 := by omega
  go_upto_region 4 with (first
    | (at_builtin; go_loud (
       refine wpList_room EI_ent rfl (.tmp 12) (.tmp 13) rfl (w.heap.size + 1) (pcells (List.replicate (l.length + 3) (0, 0))) 0 (l.length + 3) rfl HG.out ?_ A l.length c (pcells l) rfl hrW HLL.out (pcells_one l) ?_ ?_
       · simp [pcells_length]; try omega
       · omega
       intro w2 hG2 hg2
       have hb2 : Below w.heap.size w w2 := hbW.grown hg2 hbW.size (fun k hk => by cases hk; omega)
       have hF2 := Lib.hid ((hg2.block w.heap.size (heap_lt0 HF.out) (by simp)).trans HF.out)
       have HG2 : Hid (w2.heap[w.heap.size + 1]? = some (.cells (pcells (l ++ (List.replicate 0 (f1, f2) ++ List.replicate (3 - 0) (0, 0)))).toArray 39 (0, 0))) := by
         unfold Hid
         rw [hG2]
         simp only [Nat.zero_mul, List.take_zero, List.nil_append, Nat.zero_add, List.replicate_zero]
         rw [pcells_drop0, List.drop_replicate, show l.length + 3 - l.length = 3 by omega, pcells_append]
       clear hG2)))
  go_wp2_with fail
  clear hrW hbW
  go_loopw [7] (fun i wr => ∃ j : Nat, j ≤ 3 ∧ i = .int .i64 ((l.length + j : Nat) : Int) ∧ Hid (wr.heap[w.heap.size]? = some (.cells #[Value.int .i64 f1, Value.int .i64 f2] 39 (0, 0))) ∧ Hid (wr.heap[w.heap.size + 1]? = some (.cells (pcells (l ++ (List.replicate j (f1, f2) ++ List.replicate (3 - j) (0, 0)))).toArray 39 (0, 0))) ∧ Below w.heap.size w wr) (fun i _ => l.length + 3 - (intOf i).toNat)
  case atStart => exact ⟨0, by omega, rfl, hF2, HG2, hb2⟩
  case round =>
    clear hF2 HG2 hb2 hg2
    obtain ⟨j, hj, rfl, hF, hG, hb⟩ := hrel
    by_cases hlt : j < 3
    · have hfc := fun i v => blkc0 hF.out i v
      have hlF := heap_lt0 hF.out
      have hlG := heap_lt0 hG.out
      (have hx0 := hfc 0 _ rfl
       have hx1 := hfc 1 _ rfl
       have hpg := pcells_get _ _ _ (fill_get l (f1, f2) ((0 : Int), (0 : Int)) j hlt)
       rw [Nat.mul_comm] at hpg
       have hy0 := blkc0 hG.out _ _ (List.getElem?_toArray.trans hpg.1)
       have hy1 := blkc0 hG.out _ _ (List.getElem?_toArray.trans hpg.2)
       have hz0 := blkf0 hG.out ((l.length + j) * 2)
       have hz1 := blkf0 hG.out ((l.length + j) * 2 + 1)
       have j1 : ((l.length + j : Nat) : Int) < ((l.length + 3 : Nat) : Int) := by omega
       have j2 : l.length + j < l.length + 3 := by omega
       clear hpg hfc
       go_wp2_with fail)
      go_roundw
      case rel =>
        refine ⟨j + 1, by omega, by go_num, ?_, ?_, by (repeat (first | with_reducible exact Below.refl _ _ | with_reducible assumption | with_reducible refine below_drewN0 ?_ _ | with_reducible refine Below.drew ?_ | with_reducible refine Below.alloc ?_ ?_ _ | with_reducible refine Below.setCell ?_ ?_ _ | go_size | exact Below.size (by assumption)))⟩
        · exact heap_far (heap_far hF.out (by dsimp only; omega) _) (by dsimp only; omega) _
        · (have h9 := blk_put (blk_put hG.out ((l.length + j) * 2) (.int .i64 f1)) ((l.length + j) * 2 + 1) (.int .i64 f2)
           have h8 := fill_get l (f1, f2) ((0 : Int), (0 : Int)) j hlt
           rw [pcells_set0 _ _ _ _ f1 h8, pcells_set1 _ _ f1 0 f2 (by rw [List.getElem?_set_self (List.getElem?_eq_some_iff.1 h8).1]), List.set_set, fill_step _ _ _ _ hlt] at h9
           exact h9)
      case measure => simp [intOf]; omega
    · obtain rfl : j = 3 := by omega
      go_wp2_with fail
      go_ret
      refine ⟨_, rfl, by omega, ?_, hb⟩
      have h9 := hG.out
      simpa using h9

set_option maxHeartbeats 2000000 in
theorem keptN (l : List (Int × Int)) (f1 f2 : Int) (g : Nat) (A : Option Addr) (c : Nat) (w : World) (hr : Reads w A (pcells l)) (hc : l.length ≤ c) (hm : l.length ≤ 1000000) (hG : w.heap[g]? = some (.cells (pcells (l ++ List.replicate 3 (f1, f2))).toArray 39 (0, 0))) :
    Calls Try.prog 56 #[.slice (some ⟨g, 0, none⟩) l.length (l.length + 3), .slice A l.length c, .agg #[.int .i64 f1, .int .i64 f2]] w fun e w' => e = .returned (.bool true) ∧ Below w.heap.size w w' := by
  have hrg : Reads w (some ⟨g, 0, none⟩) (pcells l) := by
    have := reads_blk hG
    rw [pcells_append] at this
    exact this.front
  have hlg := heap_lt0 hG
  have HP := fun W hR1 hR2 => sameN_plain l l (some ⟨g, 0, none⟩) A (l.length + 3) c W hR1 hR2 (by omega) hc (by omega) (by omega)
  simp only [decide_true] at HP
  have HG := Lib.hid hG
  clear hG
  have i0 : decide (((l.length + 3 : Nat) : Int) < (l.length : Int) + 3) = false := decide_eq_false (by omega)
  have i1 : (l.length : Int) + 3 ≤ ((l.length + 3 : Nat) : Int) := by omega
  have i2 : (0 : Int) ≤ (l.length : Int) + 3 := by omega
  have i3 : ((l.length : Int) + 3).toNat = l.length + 3 := by omega
  go_enter Try.func56, Try.ntmps56
  go_wp2_with (first
    | (go_at_call 54; refine (HP _ (hrg.below ?_) (hr.below ?_)).mono ?_; (repeat (first | with_reducible exact Below.refl _ _ | with_reducible assumption | with_reducible refine below_drewN0 ?_ _ | with_reducible refine Below.drew ?_ | with_reducible refine Below.alloc ?_ ?_ _ | with_reducible refine Below.setCell ?_ ?_ _ | go_size | exact Below.size (by assumption))); (repeat (first | with_reducible exact Below.refl _ _ | with_reducible assumption | with_reducible refine below_drewN0 ?_ _ | with_reducible refine Below.drew ?_ | with_reducible refine Below.alloc ?_ ?_ _ | with_reducible refine Below.setCell ?_ ?_ _ | go_size | exact Below.size (by assumption))); rintro e w1 ⟨rfl, hb1⟩
       have hF := Lib.hid ((hb1.block w.heap.size (by simp)).trans (heap_alloc_new w (Obj.cells #[Value.int .i64 f1, Value.int .i64 f2] 39)))
       have hG1 := Lib.hid ((hb1.block g (by simp; omega)).trans (heap_old HG.out))
       have hbw : Below w.heap.size w w1 := Below.trans (by (repeat (first | with_reducible exact Below.refl _ _ | with_reducible assumption | with_reducible refine below_drewN0 ?_ _ | with_reducible refine Below.drew ?_ | with_reducible refine Below.alloc ?_ ?_ _ | with_reducible refine Below.setCell ?_ ?_ _ | go_size | exact Below.size (by assumption)))) (hb1.mono (by simp))
       clear hb1))
  go_loopw [8] (fun i wr => ∃ j : Nat, j ≤ 3 ∧ i = .int .i64 ((l.length + j : Nat) : Int) ∧ Hid (Below w1.heap.size w1 wr)) (fun i _ => l.length + 3 - (intOf i).toNat)
  case atStart => exact ⟨0, by omega, rfl, Below.refl _ _⟩
  case round =>
    obtain ⟨j, hj, rfl, hb⟩ := hrel
    have hF' := (hb.out.block w.heap.size (heap_lt0 hF.out)).trans hF.out
    have hG' := (hb.out.block g (heap_lt0 hG1.out)).trans hG1.out
    by_cases hlt : j < 3
    · obtain ⟨x0, x1, _, _, _⟩ := blk2 hF'
      have hpg := pcells_get _ _ _ (kept_get l (f1, f2) j hlt)
      rw [Nat.mul_comm] at hpg
      have hy0 := blkc0 hG' _ _ (List.getElem?_toArray.trans hpg.1)
      have hy1 := blkc0 hG' _ _ (List.getElem?_toArray.trans hpg.2)
      have j1 : ((l.length + j : Nat) : Int) < ((l.length + 3 : Nat) : Int) := by omega
      have j2 : l.length + j < l.length + 3 := by omega
      clear hpg hF' hG'
      go_wp2_with fail
      go_quiet (fail)
      go_wp2_with fail
      go_roundw
      case rel => exact ⟨j + 1, by omega, by go_num, hb.out.trans (by (repeat (first | with_reducible exact Below.refl _ _ | with_reducible assumption | with_reducible refine below_drewN0 ?_ _ | with_reducible refine Below.drew ?_ | with_reducible refine Below.alloc ?_ ?_ _ | with_reducible refine Below.setCell ?_ ?_ _ | go_size | exact Below.size (by assumption))))⟩
      case measure => simp [intOf]; omega
    · obtain rfl : j = 3 := by omega
      clear hF' hG'
      go_wp2_with fail
      go_ret
      exact ⟨rfl, hbw.trans (hb.out.mono hbw.size)⟩

def OwnPostN (B : Nat) (es : List (Int × Int)) (w : World) (e : Ending) (w' : World) : Prop :=
  ∃ v, e = .returned v ∧ w'.ownsRow B 39 2 v es.length (pcells es) ∧ Below B w w'

theorem cloneN (es : List (Int × Int)) (A : Option Addr) (c : Nat) (w : World) (hr : Reads w A (pcells es)) (hc : es.length ≤ c) (hm : es.length ≤ 1000000) :
    Calls Try.prog 83 #[.slice A es.length c] w (OwnPostN w.heap.size es w) := by
  cases A with
  | none =>
    have h0 : es = [] := by
      rcases hr with h | ⟨b, o, h, _⟩
      · have := pcells_length es; rw [h] at this; simp at this; exact List.eq_nil_of_length_eq_zero (by omega)
      · cases h
    subst h0
    have hnl : ∀ w0 : World, (binOp .eql 34 (.slice none 0 c) (.slice none 0 0)).run Try.prog w0 = .ok (.bool true) w0 := fun w0 => by
      rw [Lib.run_eql_slice_nil w0 34 39 _ _ _ _ _ Try.underlying34]; rfl
    simp only [List.length_nil]
    go_enter Try.func83, Try.ntmps83
    go_wp2_with fail
    go_ret
    exact ⟨_, rfl, own_nil0 _ _ _ _, Below.refl _ _⟩
  | some ad =>
    have hpl := Lib.hid (pcells_length es)
    have hnl : ∀ w0 : World, (binOp .eql 34 (.slice (some ad) es.length c) (.slice none 0 0)).run Try.prog w0 = .ok (.bool false) w0 := fun w0 => by
      rw [Lib.run_eql_slice_nil w0 34 39 _ _ _ _ _ Try.underlying34]; rfl
    go_enter Try.func83, Try.ntmps83
    go_wp2_with (first
      | (at_builtin; go_loud (
         refine wpList_app EI_ent rfl (.tmp 5) (.tmp 6) rfl w.heap.size (.slice (some ⟨w.heap.size, 0, none⟩) 0 0) 0 [] rfl ?_ (some ad) es.length c (pcells es) rfl ?_ ?_ (pcells_one es) ?_ ?_ ?_
         · exact own_shut (cur := []) (Nat.le_refl _) (heap_alloc_new w _) (Nat.le_refl _) (by decide) (by simp) (by simp)
         · exact hr.below (by (repeat (first | with_reducible exact Below.refl _ _ | with_reducible assumption | with_reducible refine below_drewN0 ?_ _ | with_reducible refine Below.drew ?_ | with_reducible refine Below.alloc ?_ ?_ _ | with_reducible refine Below.setCell ?_ ?_ _ | go_size | exact Below.size (by assumption))))
         · rw [hpl.out]; omega
         · omega
         · go_size
         intro v1 w1 hown1 hg1 hat1
         have hb1 : Below w.heap.size w w1 := below_app (by (repeat (first | with_reducible exact Below.refl _ _ | with_reducible assumption | with_reducible refine below_drewN0 ?_ _ | with_reducible refine Below.drew ?_ | with_reducible refine Below.alloc ?_ ?_ _ | with_reducible refine Below.setCell ?_ ?_ _ | go_size | exact Below.size (by assumption)))) hg1 (by go_size) (fun g hg => by simp [Value.ownBlock] at hg; omega)
         obtain ⟨A1, c1, rfl, hc1, hr1⟩ := own_reads0 hown1
         simp only [Nat.zero_add, List.nil_append] at hown1)))
    go_ret
    exact ⟨_, rfl, hown1, hb1⟩

end Go.Proofs.Ytglhdoibglafbaa

/- The sort's worlds: what the shelf says of them, in my words. -/
namespace Go.Proofs.Ytglhdoibglafbaa
open Go Go.RowKit
set_option maxRecDepth 100000
set_option linter.unusedVariables false

def encP (x : PE) : List Value := [.int .i64 x.1, .int .i64 x.2]
theorem flat_pcells (l : List PE) : Sort.flatK encP 2 l.toArray = (pcells l).toArray := by
  refine Sort.ext_get! (by simp [pcells_length, Nat.mul_comm]) fun t ht => ?_
  have ht' : t < l.length * 2 := by simpa using ht
  rw [Sort.get_flatK _ _ _ _ (by simpa using ht')]
  have h2 : t / 2 < l.length := by omega
  obtain ⟨e, he⟩ : ∃ e, l[t / 2]? = some e := ⟨l[t / 2], by simp⟩
  obtain ⟨p0, p1⟩ := pcells_get l (t / 2) e he
  have hle : l.toArray[t / 2]! = e := by
    rw [getElem!_pos l.toArray (t / 2) (by simpa using h2)]
    simpa using (List.getElem?_eq_some_iff.1 he).2
  rw [hle]
  have hlt : t < (pcells l).toArray.size := by simp [pcells_length]; omega
  rw [getElem!_pos (pcells l).toArray t hlt]
  rcases Nat.mod_two_eq_zero_or_one t with h | h
  · have e1 : 2 * (t / 2) = t := by omega
    rw [e1] at p0
    have := (List.getElem?_eq_some_iff.1 p0).2
    rw [h]
    simpa [encP] using this.symm
  · have e1 : 2 * (t / 2) + 1 = t := by omega
    rw [e1] at p1
    have := (List.getElem?_eq_some_iff.1 p1).2
    rw [h]
    simpa [encP] using this.symm

theorem holds_of {w : World} {g : Nat} {cur : List Value} {T : TypeId} {l : List PE} (h : w.heap[g]? = some (.cells cur.toArray T (0, 0))) (ht : cur.take (l.length * 2) = pcells l) : Sort.HoldsK encP 2 w g 0 l.toArray := by
  unfold Sort.HoldsK
  rw [flat_pcells]
  intro j hj
  have hj' : j < (pcells l).length := by simpa using hj
  refine ⟨?_, by rw [Nat.zero_add]; exact blkf0 h j⟩
  rw [Nat.zero_add]
  refine blkc0 h j _ ?_
  rw [getElem!_pos (pcells l).toArray j hj]
  have hlt : j < l.length * 2 := by rw [pcells_length] at hj'; omega
  have h1 : (cur.take (l.length * 2))[j]? = (pcells l)[j]? := by rw [ht]
  rw [List.getElem?_take, if_pos hlt] at h1
  rw [List.getElem?_toArray, h1]
  simp

theorem reads_holds {w : World} {g : Nat} {d : Array PE} (h : Sort.HoldsK encP 2 w g 0 d) (hg : g < w.heap.size) : Reads w (some ⟨g, 0, none⟩) (pcells d.toList) := by
  have hf := flat_pcells d.toList
  rw [show d.toList.toArray = d by simp] at hf
  unfold Sort.HoldsK at h
  rw [hf] at h
  refine .inr ⟨g, 0, rfl, hg, fun j u hj => ?_⟩
  have hl := (List.getElem?_eq_some_iff.1 hj).1
  have h9 := (h j (by simpa using hl)).1
  rw [getElem!_pos (pcells d.toList).toArray j (by simpa using hl)] at h9
  rw [h9]
  rw [← hj]
  simp

theorem below_sort {w : World} {g m B : Nat} {d : Array PE} {os : Array Obj} (hB : B ≤ g) (hs : B ≤ w.heap.size) : Below B w (sortWorldK encP 2 w g 0 m d os) := by
  refine ⟨rfl, rfl, rfl, size_sortWorldK_c encP 2 w g 0 m d os, fun k hk => ?_⟩
  unfold sortWorldK Sort.grow Sort.putRowK Sort.putRow Sort.mapBlock Sort.ahead
  simp only
  rw [Array.getElem?_append_left (by simp; omega), Array.getElem?_modify, if_neg (by omega)]
end Go.Proofs.Ytglhdoibglafbaa

/- The sort at edges by gadget.Lay's closure. -/
namespace Go.Proofs.Ytglhdoibglafbaa
open Go Go.RowKit
set_option maxRecDepth 100000
set_option linter.unusedVariables false

def sortEd_ren : Go.Shelf.Ren := ⟨fun | 6 => 67 | 15 => 95 | 14 => 94 | 28 => 115 | 29 => 116 | 20 => 107 | 21 => 108 | 22 => 109 | 23 => 110 | 24 => 111 | 25 => 112 | 26 => 113 | 27 => 114 | 46 => 129 | 47 => 130 | 48 => 131 | 49 => 132 | 50 => 133 | 57 => 140 | n => n, fun | 22 => 23 | 24 => 28 | 25 => 99 | 3 => 3 | 39 => 22 | 0 => 0 | 53 => 143 | 55 => 145 | 4 => 4 | 46 => 137 | 45 => 136 | 50 => 103 | 5 => 5 | 9 => 9 | 66 => 153 | 70 => 157 | 76 => 162 | 77 => 163 | n => n, fun | n => n⟩
theorem sortEd : Go.Proofs.SlLaysF0.n6 Try.prog sortEd_ren := {
  mixed := by kernel_rfl
  f6 := ⟨Try.f67.name, by decide, Try.func67.trans (congrArg some (by kernel_rfl))⟩
  f14 := ⟨Try.f94.name, by decide, Try.func94.trans (congrArg some (by kernel_rfl))⟩
  f15 := Try.func95.trans (congrArg some (by kernel_rfl))
  f20 := ⟨Try.f107.name, by decide, Try.func107.trans (congrArg some (by kernel_rfl))⟩
  f21 := ⟨Try.f108.name, by decide, Try.func108.trans (congrArg some (by kernel_rfl))⟩
  f22 := ⟨Try.f109.name, by decide, Try.func109.trans (congrArg some (by kernel_rfl))⟩
  f23 := ⟨Try.f110.name, by decide, Try.func110.trans (congrArg some (by kernel_rfl))⟩
  f24 := ⟨Try.f111.name, by decide, Try.func111.trans (congrArg some (by kernel_rfl))⟩
  f25 := ⟨Try.f112.name, by decide, Try.func112.trans (congrArg some (by kernel_rfl))⟩
  f26 := ⟨Try.f113.name, by decide, Try.func113.trans (congrArg some (by kernel_rfl))⟩
  f27 := ⟨Try.f114.name, by decide, Try.func114.trans (congrArg some (by kernel_rfl))⟩
  f28 := Try.func115.trans (congrArg some (by kernel_rfl))
  f29 := Try.func116.trans (congrArg some (by kernel_rfl))
  f46 := ⟨Try.f129.name, by decide, Try.func129.trans (congrArg some (by kernel_rfl))⟩
  f47 := Try.func130.trans (congrArg some (by kernel_rfl))
  f48 := Try.func131.trans (congrArg some (by kernel_rfl))
  f49 := ⟨Try.f132.name, by decide, Try.func132.trans (congrArg some (by kernel_rfl))⟩
  f50 := ⟨Try.f133.name, by decide, Try.func133.trans (congrArg some (by kernel_rfl))⟩
  f57 := ⟨Try.f140.name, by decide, Try.func140.trans (congrArg some (by kernel_rfl))⟩
  t0 := Try.underlying0
  a0 := Try.isAgg0
  z0 := Try.sizeOf0
  v0 := Try.zeroValue0
  t3 := Try.underlying3
  a3 := Try.isAgg3
  z3 := Try.sizeOf3
  v3 := Try.zeroValue3
  t4 := Try.underlying4
  a4 := Try.isAgg4
  z4 := Try.sizeOf4
  v4 := Try.zeroValue4
  t5 := Try.underlying5
  a5 := Try.isAgg5
  z5 := Try.sizeOf5
  v5 := Try.zeroValue5
  t9 := Try.underlying9
  a9 := Try.isAgg9
  z9 := Try.sizeOf9
  v9 := Try.zeroValue9
  t22 := Try.underlying23
  a22 := Try.isAgg23
  z22 := Try.sizeOf23
  v22 := Try.zeroValue23
  t25 := Try.underlying99
  a25 := Try.isAgg99
  z25 := Try.sizeOf99
  v25 := Try.zeroValue99
  t39 := Try.underlying22
  a39 := Try.isAgg22
  z39 := Try.sizeOf22
  v39 := Try.zeroValue22
  t45 := Try.underlying136
  a45 := Try.isAgg136
  z45 := Try.sizeOf136
  v45 := Try.zeroValue136
  t46 := Try.underlying137
  a46 := Try.isAgg137
  z46 := Try.sizeOf137
  v46 := Try.zeroValue137
  t50 := Try.underlying103
  a50 := Try.isAgg103
  z50 := Try.sizeOf103
  v50 := Try.zeroValue103
  t53 := Try.underlying143
  a53 := Try.isAgg143
  z53 := Try.sizeOf143
  v53 := Try.zeroValue143
  t55 := Try.underlying145
  a55 := Try.isAgg145
  z55 := Try.sizeOf145
  v55 := Try.zeroValue145
  t66 := Try.underlying153
  a66 := Try.isAgg153
  z66 := Try.sizeOf153
  v66 := Try.zeroValue153
  t70 := Try.underlying157
  a70 := Try.isAgg157
  z70 := Try.sizeOf157
  v70 := Try.zeroValue157
  t76 := Try.underlying162
  a76 := Try.isAgg162
  z76 := Try.sizeOf162
  v76 := Try.zeroValue162
  t77 := Try.underlying163
  a77 := Try.isAgg163
  z77 := Try.sizeOf163
  v77 := Try.zeroValue163 }


set_option maxHeartbeats 2000000 in
theorem layG (a b c d : Int) (w : World) :
    Calls Try.prog 101 #[.agg #[.int .i64 a, .int .i64 b], .agg #[.int .i64 c, .int .i64 d]] w fun e w' => e = .returned (.int .i64 (cmpE a b c d)) ∧ GF w w' := by
  have H1 := cmpE_eq a b c d
  obtain ⟨p, hp⟩ : ∃ p : Int, p = (if a < c then (-1 : Int) else if c < a then 1 else 0) := ⟨_, rfl⟩
  obtain ⟨q, hq⟩ : ∃ p : Int, p = (if b < d then (-1 : Int) else if d < b then 1 else 0) := ⟨_, rfl⟩
  rw [← hp, ← hq] at H1
  obtain ⟨r, hr⟩ : ∃ r : Int, r = if p = 0 then q else p := ⟨_, rfl⟩
  have C1 := fun W => cmpInt a c W
  have C2 := fun W => cmpInt b d W
  have C3 := fun g W h0 h1 => or2 p q g W h0 h1
  rw [← hp] at C1
  rw [← hq] at C2
  rw [← hr] at C3 H1
  clear hp hq hr
  rw [← H1]
  clear H1
  go_enter Try.func101, Try.ntmps101
  go_wp2_with fail
  refine wp_tail 10 (by kernel_rfl) (by kernel_rfl) ?_
  simp only [List.take_succ_cons, List.take_zero, List.drop_succ_cons, List.drop_zero]
  repeat (first | still_step | (refine wpStill_step (fun K hK => ?_); go_simp; with_reducible refine ⟨_, flip_w (C1 _), hK _ ?_⟩; clear hK K)  | (refine wpStill_step (fun K hK => ?_); go_simp; with_reducible refine ⟨_, flip_w (C2 _), hK _ ?_⟩; clear hK K))
  refine wpStill_nil ?_
  clear C1 C2
  go_wp2_with fail
  with_reducible refine (C3 _ _ ?_ ?_).mono ?_
  · simp [go_sem]
  · simp [go_sem]
  rintro e w' ⟨rfl, rfl⟩
  clear C3
  go_wp2_with fail
  go_ret
  exact ⟨rfl, by (repeat (first | exact GF.refl _ | refine GF.drewN ?_ _ | refine GF.drew ?_ | refine GF.alloc ?_ _ | refine GF.setCell ?_ ?_ _ | go_size | (simp; done) | (simp; omega)))⟩




theorem sortEd_any (l : List PE) (g c : Nat) (cur : List Value) (T : TypeId) (w : World) (hg : w.heap[g]? = some (.cells cur.toArray T (0, 0))) (ht : cur.take (l.length * 2) = pcells l) (hm : l.length ≤ 90000) :
    Calls Try.prog 67 #[.slice (some ⟨g, 0, none⟩) l.length c, .func (.func 101) #[] #[]] w fun e w' => e = .returned (.tuple #[]) ∧ Reads w' (some ⟨g, 0, none⟩) (pcells (sortL l)) ∧ ∀ B, B ≤ g → B ≤ w.heap.size → Below B w w' := by
  have hH := holds_of hg ht
  have hgl := heap_lt0 hg
  have eg : ∀ args w, (callFunc 101 args).run Try.prog w = .ok (.enter 101 args) w := enters_of Try.func101 (by kernel_rfl) rfl
  have aE : ∀ w, (isAgg 28).run Try.prog w = .ok true w := fun w => by kernel_rfl
  have zE : ∀ w, (Go.sizeOf 28).run Try.prog w = .ok 2 w := fun w => by kernel_rfl
  have h := AnyQ.slices_SortFunc sortEd 2 aE zE encP (fun _ => rfl) (fun x v hv => by simp [encP] at hv; rcases hv with rfl | rfl <;> rfl) (fun x y : PE => cmpE x.1 x.2 y.1 y.2) swoE 101 #[] g 0 c l.toArray w eg (fun _ _ _ _ x y => layG x.1 x.2 y.1 y.2 _) hH hgl (by simp; omega)
  have hsz : l.toArray.size = l.length := by simp
  change Calls Try.prog 67 #[.slice (some ⟨g, 0, none⟩) l.toArray.size c, .func (.func 101) #[] #[]] w _ at h
  rw [hsz] at h
  refine h.mono fun e w' => ?_
  rintro ⟨he, d', n, os, hp, hs, rfl⟩
  refine ⟨he, ?_, fun B h1 h2 => below_sort h1 h2⟩
  have hd := sorted_is l d' (by rw [hsz]; exact hp) (by rw [hsz]; exact hs)
  rw [← hd]
  have hsd : d'.size = l.toArray.size := hp.1
  exact reads_holds (holdsK_sortWorldK_c encP 2 w g 0 l.toArray d' n os hH hgl hsd) (Nat.lt_of_lt_of_le hgl (size_sortWorldK_c encP 2 w g 0 n d' os))

end Go.Proofs.Ytglhdoibglafbaa

/- Walks of slices.SortFunc at no entry. -/
namespace Go.Proofs.Ytglhdoibglafbaa
open Go Go.RowKit
set_option maxRecDepth 100000
set_option linter.unusedVariables false

theorem len64_0 (w : World) : Calls Try.prog 116 #[.int .u64 0] w fun e w' => e = .returned (.int .i64 0) ∧ w = w' := by
  go_enter Try.func116, Try.ntmps116
  go_wp2
  go_ret
  exact ⟨by kernel_rfl, rfl⟩

theorem len_0 (w : World) : Calls Try.prog 95 #[.int .u64 0] w fun e w' => e = .returned (.int .i64 0) ∧ w = w' := by
  go_enter Try.func95, Try.ntmps95
  go_wp2_with (go_at_call 116; refine (len64_0 _).mono ?_; rintro e w1 ⟨rfl, rfl⟩)
  go_ret
  simp

theorem ins_0N (A : Option Addr) (c : Nat) (fv : Value) (w : World) : Calls Try.prog 119 #[.slice A 0 c, .int .i64 0, .int .i64 0, fv] w fun e w' => e = .returned (.tuple #[]) ∧ w = w' := by
  go_enter Try.func119, Try.ntmps119
  go_wp2
  go_rounds 1
  go_end0
  simp

theorem pdq_0N (A : Option Addr) (c : Nat) (fv : Value) (l : Int) (w : World) : Calls Try.prog 102 #[.slice A 0 c, .int .i64 0, .int .i64 0, .int .i64 l, fv] w fun e w' => e = .returned (.tuple #[]) ∧ w = w' := by
  go_enter Try.func102, Try.ntmps102
  go_wp2
  refine wp_loop_rounds 1 ?_
  rw [rounds_succ]
  go_wp2_with (go_at_call 119; refine (ins_0N A c fv _).mono ?_; rintro e w1 ⟨rfl, rfl⟩)
  (try simp only [Exit.inBlock, Exit.then])
  refine bodyPost_ret (results_none rfl _ _ _) rfl ?_
  exact ⟨rfl, rfl⟩

theorem sort_0N (A : Option Addr) (c : Nat) (fv : Value) (w : World) : Calls Try.prog 84 #[.slice A 0 c, fv] w fun e w' => e = .returned (.tuple #[]) ∧ w = w' := by
  go_enter Try.func84, Try.ntmps84
  go_wp2_with (first | (go_at_call 95; refine (len_0 _).mono ?_; rintro e w1 ⟨rfl, rfl⟩) | (go_at_call 102; refine (pdq_0N A c fv _ _).mono ?_; rintro e w1 ⟨rfl, rfl⟩))
  go_end0
  simp

end Go.Proofs.Ytglhdoibglafbaa

/- Walks of slices.SortFunc at no edge. -/
namespace Go.Proofs.Ytglhdoibglafbaa
open Go Go.RowKit
set_option maxRecDepth 100000
set_option linter.unusedVariables false

theorem ins_0E (A : Option Addr) (c : Nat) (fv : Value) (w : World) : Calls Try.prog 107 #[.slice A 0 c, .int .i64 0, .int .i64 0, fv] w fun e w' => e = .returned (.tuple #[]) ∧ w = w' := by
  go_enter Try.func107, Try.ntmps107
  go_wp2
  go_rounds 1
  go_end0
  simp

theorem pdq_0E (A : Option Addr) (c : Nat) (fv : Value) (l : Int) (w : World) : Calls Try.prog 94 #[.slice A 0 c, .int .i64 0, .int .i64 0, .int .i64 l, fv] w fun e w' => e = .returned (.tuple #[]) ∧ w = w' := by
  go_enter Try.func94, Try.ntmps94
  go_wp2
  refine wp_loop_rounds 1 ?_
  rw [rounds_succ]
  go_wp2_with (go_at_call 107; refine (ins_0E A c fv _).mono ?_; rintro e w1 ⟨rfl, rfl⟩)
  (try simp only [Exit.inBlock, Exit.then])
  refine bodyPost_ret (results_none rfl _ _ _) rfl ?_
  exact ⟨rfl, rfl⟩

theorem sort_0E (A : Option Addr) (c : Nat) (fv : Value) (w : World) : Calls Try.prog 67 #[.slice A 0 c, fv] w fun e w' => e = .returned (.tuple #[]) ∧ w = w' := by
  go_enter Try.func67, Try.ntmps67
  go_wp2_with (first | (go_at_call 95; refine (len_0 _).mono ?_; rintro e w1 ⟨rfl, rfl⟩) | (go_at_call 94; refine (pdq_0E A c fv _ _).mono ?_; rintro e w1 ⟨rfl, rfl⟩))
  go_end0
  simp

end Go.Proofs.Ytglhdoibglafbaa

/- Sort at edges of a row of one's own, whatever its length. -/
namespace Go.Proofs.Ytglhdoibglafbaa
open Go Go.RowKit
set_option maxRecDepth 100000
set_option linter.unusedVariables false

theorem reads_keep {w w2 : World} {A : Option Addr} {cs : List Value} {base : Nat} (h : Reads w A cs) (hA : ∀ a, A = some a → base ≤ a.block) (hs : w.heap.size ≤ w2.heap.size) (hk : ∀ k, base ≤ k → k < w.heap.size → w2.heap[k]? = w.heap[k]?) : Reads w2 A cs := by
  rcases h with h | ⟨b, o, h1, h2, h3⟩
  · exact .inl h
  · refine .inr ⟨b, o, h1, Nat.lt_of_lt_of_le h2 hs, fun j v hj => ?_⟩
    have h4 := hk b (by have := hA _ h1; simpa using this) h2
    rw [← h3 j v hj]
    unfold World.cell?
    rw [h4]

theorem sortE_own (L : List PE) (A : Option Addr) (c base : Nat) (W : World) (ho : W.ownsRow base 28 2 (.slice A L.length c) L.length (pcells L)) (hB : base ≤ W.heap.size) (hm : L.length ≤ 90000) :
    Calls Try.prog 67 #[.slice A L.length c, .func (.func 101) #[] #[]] W fun e w' => e = .returned (.tuple #[]) ∧ L.length ≤ c ∧ Below base W w' ∧
      (∀ w2, w'.heap.size ≤ w2.heap.size → (∀ k, base ≤ k → k < w'.heap.size → w2.heap[k]? = w'.heap[k]?) → Reads w2 A (pcells (sortL L))) := by
  by_cases h0 : L = []
  · subst h0
    refine (sort_0E A c _ W).mono ?_
    rintro e w' ⟨rfl, rfl⟩
    exact ⟨rfl, Nat.zero_le _, Below.refl _ _, fun _ _ _ => .inl rfl⟩
  · have hl0 : 0 < L.length := List.length_pos_iff.2 h0
    obtain ⟨g, c1, cur, he, hBg, hgl, hh, hnc, _, _, htk⟩ := own_open ho hl0
    cases he
    refine (sortEd_any L g c cur _ W hh htk hm).mono ?_
    rintro e w' ⟨rfl, hr, hb⟩
    exact ⟨rfl, hnc, hb _ hBg hB, fun w2 h1 h2 => reads_keep hr (by intro a ha; cases ha; exact hBg) h1 h2⟩
end Go.Proofs.Ytglhdoibglafbaa

/- Walk of (*Gadget).Lay. -/
namespace Go.Proofs.Ytglhdoibglafbaa
open Go Go.RowKit
set_option maxRecDepth 100000
set_option linter.unusedVariables false

theorem stI_length (x : Int) (p c : Nat) : ∀ i, (stI x p c i).length = i * c := by
  intro i
  induction i with
  | zero => simp [stI]
  | succ i ih => rw [stI_succ, List.length_append, ih, stR_length, Nat.succ_mul]
theorem stL_mono (F P C : List Int) {a : Nat} : ∀ {b : Nat}, a ≤ b → (stL F P C a).length ≤ (stL F P C b).length := by
  intro b
  induction b with
  | zero => intro h; obtain rfl : a = 0 := by omega
            exact Nat.le_refl _
  | succ b ih =>
    intro h
    by_cases he : a = b + 1
    · subst he; exact Nat.le_refl _
    · have := ih (by omega); rw [stL_succ, List.length_append]; omega



def LayPost (L : List PE) (B : Nat) (w : World) (e : Ending) (w' : World) : Prop :=
  ∃ A c, e = .returned (.slice A L.length c) ∧ L.length ≤ c ∧ Reads w' A (pcells (sortL L)) ∧ Below B w w'

set_option maxHeartbeats 4000000 in
theorem lay_any (m N : Nat) (es : List (Int × Int)) (F P C : List Int) (g bF bP bC bN : Nat) (E : Int) (A : Option Addr) (c B : Nat) (w : World) (hr : Reads w A (pcells es)) (hc : es.length ≤ c) (hR : RightP m es)
    (hG : GadAt w g bF bP bC m F P C (.slice (some ⟨bN, 0, none⟩) N N) E) (hFl : F.length = m) (hPl : P.length = m) (hCl : C.length = m)
    (hFb : ∀ x ∈ F, 0 ≤ x ∧ x ≤ 1000000) (hPb : ∀ x ∈ P, 0 ≤ x ∧ x ≤ 65536) (hCb : ∀ x ∈ C, 0 ≤ x ∧ x ≤ 65536)
    (hE : (layL F P C m es).length ≤ 90000) (hN : N ≤ 1000000) (hok : ∀ e ∈ layL F P C m es, 0 ≤ e.1 ∧ e.1 < (N : Int) ∧ 0 ≤ e.2 ∧ e.2 < (N : Int)) (hB : B ≤ g) :
    Calls Try.prog 76 #[.pointer (some ⟨g, 0, none⟩), .agg #[.int .i64 (m : Int), .slice A es.length c]] w (LayPost (layL F P C m es) B w) := by
  have hm1 := hR.n1
  have hgl := heap_lt0 hG.1
  have hlay : (layL F P C m es).length = (stL F P C m).length + es.length := by unfold layL; rw [List.length_append, List.length_map, List.length_map]
  go_enter Try.func76, Try.ntmps76
  have hbw0 : Below w.heap.size w (w.alloc (Obj.cells #[Value.int .i64 (m : Int), Value.slice A es.length c] 25)) := by (repeat (first | with_reducible exact Below.refl _ _ | with_reducible assumption | with_reducible refine below_drewN0 ?_ _ | with_reducible refine Below.drew ?_ | with_reducible refine Below.alloc ?_ ?_ _ | with_reducible refine Below.setCell ?_ ?_ _ | go_size | exact Below.size (by assumption)))
  obtain ⟨q0, q1, q2, q3, q4⟩ := blk2 (heap_alloc_new w (Obj.cells #[Value.int .i64 (m : Int), Value.slice A es.length c] 25))
  have z2 := (hbw0.cell (p := ⟨g, 2, none⟩) hgl).trans (blkc hG.1 2 _ rfl)
  go_upto_region 4 with fail
  clear z2
  generalize w.alloc (Obj.cells #[Value.int .i64 (m : Int), Value.slice A es.length c] 25) = w1 at *
  have hw1 := hbw0.size
  have hgl1 := Nat.lt_of_lt_of_le hgl hw1
  have HG := Lib.hid (fun (W : World) (h : Below w1.heap.size w1 W) => (⟨(h.cell (p := ⟨g, 0, none⟩) hgl1).trans ((hbw0.cell (p := ⟨g, 0, none⟩) hgl).trans (blkc hG.1 0 _ rfl)), (h.cell (p := ⟨g, 1, none⟩) hgl1).trans ((hbw0.cell (p := ⟨g, 1, none⟩) hgl).trans (blkc hG.1 1 _ rfl)), (h.cell (p := ⟨g, 2, none⟩) hgl1).trans ((hbw0.cell (p := ⟨g, 2, none⟩) hgl).trans (blkc hG.1 2 _ rfl)), (h.cell (p := ⟨g, 3, none⟩) hgl1).trans ((hbw0.cell (p := ⟨g, 3, none⟩) hgl).trans (blkc hG.1 3 _ rfl)), (h.cell (p := ⟨w.heap.size, 0, none⟩) q4).trans q0, (h.cell (p := ⟨w.heap.size, 1, none⟩) q4).trans q1⟩ :
    W.cell? ⟨g, 0, none⟩ = some (.slice (some ⟨bN, 0, none⟩) N N) ∧ W.cell? ⟨g, 1, none⟩ = some (.slice (some ⟨bF, 0, none⟩) m m) ∧ W.cell? ⟨g, 2, none⟩ = some (.slice (some ⟨bP, 0, none⟩) m m) ∧ W.cell? ⟨g, 3, none⟩ = some (.slice (some ⟨bC, 0, none⟩) m m) ∧ W.cell? ⟨w.heap.size, 0, none⟩ = some (.int .i64 (m : Int)) ∧ W.cell? ⟨w.heap.size, 1, none⟩ = some (.slice A es.length c)))
  have HZ := Lib.hid (fun (W : World) (h : Below w1.heap.size w1 W) => (World.frozen?_of_block (h.block g hgl1)).trans ((World.frozen?_of_block (hbw0.block g hgl)).trans (blkf hG.1 0)))
  have HRF := Lib.hid (hG.2.1.below hbw0 hG.2.1.lt)
  have HRP := Lib.hid (hG.2.2.1.below hbw0 hG.2.2.1.lt)
  have HRC := Lib.hid (hG.2.2.2.1.below hbw0 hG.2.2.2.1.lt)
  have hr1 := hr.below hbw0
  have HFl := Lib.hid hFl
  have HPl := Lib.hid hPl
  have HCl := Lib.hid hCl
  have HL := Lib.hid hlay
  have HK := Lib.hid hok
  clear hG q0 q1 q2 q3 q4 hr hFl hPl hCl hok
  go_loopw [5, 20] (fun v5 i wx => ∃ (k : Nat) (A5 : Option Addr) (c5 : Nat), k ≤ m ∧ i = .int .i64 k ∧ v5 = .slice A5 (stL F P C k).length c5 ∧ Hid (wx.ownsRow w1.heap.size 28 2 (.slice A5 (stL F P C k).length c5) (stL F P C k).length (pcells (stL F P C k))) ∧ Below w1.heap.size w1 wx) (fun _ i _ => m - (intOf i).toNat)
  case atStart => exact ⟨0, none, 0, Nat.zero_le _, rfl, rfl, own_nil0 _ _ _ _, Below.refl _ _⟩
  case round =>
    obtain ⟨k, A5, c5, hk, rfl, rfl, ho, hb⟩ := hrel
    by_cases hkm : k < m
    · have kI : (k : Int) < (m : Int) := by omega
      obtain ⟨p, hp, hp2⟩ : ∃ p : Nat, P[k]? = some (p : Int) ∧ p ≤ 65536 := by
        have h1 : k < P.length := by rw [HPl.out]; exact hkm
        have h2 := hPb P[k] (List.getElem_mem h1)
        exact ⟨P[k].toNat, by rw [List.getElem?_eq_getElem h1, Int.toNat_of_nonneg h2.1], by omega⟩
      obtain ⟨q, hq, hq2⟩ : ∃ q : Nat, C[k]? = some (q : Int) ∧ q ≤ 65536 := by
        have h1 : k < C.length := by rw [HCl.out]; exact hkm
        have h2 := hCb C[k] (List.getElem_mem h1)
        exact ⟨C[k].toNat, by rw [List.getElem?_eq_getElem h1, Int.toNat_of_nonneg h2.1], by omega⟩
      obtain ⟨x, hx, hx2⟩ : ∃ x : Int, F[k]? = some x ∧ (0 ≤ x ∧ x ≤ 1000000) := by
        have h1 : k < F.length := by rw [HFl.out]; exact hkm
        exact ⟨F[k], List.getElem?_eq_getElem h1, hFb F[k] (List.getElem_mem h1)⟩
      have hpl := Lib.hid (stL_succ F P C k)
      have e1 : nt P k = p := by unfold nt; rw [hp]; simp
      have e2 : nt C k = q := by unfold nt; rw [hq]; simp
      rw [hx, e1, e2] at hpl
      simp only [Option.getD_some] at hpl
      have hlk := stL_mono F P C (show k + 1 ≤ m by omega)
      have hll := stL_succ F P C k
      rw [hx, e1, e2] at hll
      simp only [Option.getD_some] at hll
      rw [hll, List.length_append, stI_length] at hlk
      have hLb : (stL F P C k).length + p * q ≤ 90000 := by rw [hlay] at hE; omega
      clear hll hlk e1 e2
      have cP := (HRP.out.below hb HRP.out.lt).cell hp
      have HQ := Lib.hid hq
      have HX := Lib.hid hx
      clear hp hq hx
      generalize hLL : stL F P C k = L at *
      clear hLL hE hlay
      go_upto_region 7 with fail
      clear cP
      (go_loopw [5, 26] (fun v5 i wx => ∃ (j : Nat) (A5 : Option Addr) (c5 : Nat), j ≤ p ∧ i = .int .i64 j ∧ v5 = .slice A5 (L ++ stI x p q j).length c5 ∧ Hid (wx.ownsRow w1.heap.size 28 2 (.slice A5 (L ++ stI x p q j).length c5) (L ++ stI x p q j).length (pcells (L ++ stI x p q j))) ∧ Below w1.heap.size w1 wx) (fun _ i _ => p - (intOf i).toNat)
       case atStart => exact ⟨0, A5, c5, Nat.zero_le _, rfl, by simp [stI], by simpa [stI] using ho, hb⟩
       case round =>
         clear ho hb
         obtain ⟨j, A5, c5, hj, rfl, rfl, ho, hb⟩ := hrel
         by_cases hjp : j < p
         · (have j1 : (j : Int) < (p : Int) := by omega
            obtain ⟨_, _, _, g3, _⟩ := HG.out wr hb
            have cC := (HRC.out.below hb HRC.out.lt).cell HQ.out
            have hS2 := Lib.hid (stI_succ x p q j)
            have hMl : (L ++ stI x p q j).length = L.length + j * q := by rw [List.length_append, stI_length]
            have hq1 : (j + 1) * q ≤ p * q := Nat.mul_le_mul_right q (by omega)
            rw [Nat.succ_mul] at hq1
            have hM0 : Hid (L ++ stI x p q (j + 1) = (L ++ stI x p q j) ++ stR x p j q) := by unfold Hid; rw [hS2.out, List.append_assoc]
            have hMb : (L ++ stI x p q j).length + q ≤ 90000 := by omega
            clear hq1 hMl hLb
            generalize hM : L ++ stI x p q j = M at *
            clear hS2
            go_upto_region 10 with fail
            clear g3 cC
            go_loopw [5, 36] (fun v5 i wx => ∃ (t : Nat) (A5 : Option Addr) (c5 : Nat), t ≤ q ∧ i = .int .i64 t ∧ v5 = .slice A5 (M.length + t) c5 ∧ Hid (wx.ownsRow w1.heap.size 28 2 (.slice A5 (M.length + t) c5) (M.length + t) (pcells (M ++ stR x p j t))) ∧ Below w1.heap.size w1 wx) (fun _ i _ => q - (intOf i).toNat)
            case atStart => exact ⟨0, A5, c5, Nat.zero_le _, rfl, rfl, by simpa [stR] using ho, hb⟩
            case round =>
              clear ho hb
              obtain ⟨t, A5, c5, ht, rfl, rfl, ho, hb⟩ := hrel
              by_cases htq : t < q
              · have t1 : (t : Int) < (q : Int) := by omega
                have hsz := hb.size
                have px := fun W (h : Below wr.heap.size wr W) => port_still g bF m k F x j W ((HG.out W (hb.trans (h.mono hsz))).2.1) (HRF.out.below (hb.trans (h.mono hsz)) HRF.out.lt) HFl.out HX.out (by omega) (by omega)
                have py := fun W (h : Below wr.heap.size wr W) => port_still g bF m k F x ((p : Int) + (t : Int)) W ((HG.out W (hb.trans (h.mono hsz))).2.1) (HRF.out.below (hb.trans (h.mono hsz)) HRF.out.lt) HFl.out HX.out (by omega) (by omega)
                have hRs := Lib.hid (stR_succ x p j t)
                go_wp2_with (first
                  | (go_at_call 99; with_reducible refine (px _ ?_).mono ?_; (repeat (first | with_reducible exact Below.refl _ _ | with_reducible assumption | with_reducible refine below_drewN0 ?_ _ | with_reducible refine Below.drew ?_ | with_reducible refine Below.alloc ?_ ?_ _ | with_reducible refine Below.setCell ?_ ?_ _ | go_size | exact Below.size (by assumption))); rintro e w' ⟨rfl, rfl⟩)
                  | (go_at_call 99; with_reducible refine (py _ ?_).mono ?_; (repeat (first | with_reducible exact Below.refl _ _ | with_reducible assumption | with_reducible refine below_drewN0 ?_ _ | with_reducible refine Below.drew ?_ | with_reducible refine Below.alloc ?_ ?_ _ | with_reducible refine Below.setCell ?_ ?_ _ | go_size | exact Below.size (by assumption))); rintro e w' ⟨rfl, rfl⟩)
                  | (at_builtin; go_loud (
                     refine wpList_app EI_edge rfl (.tmp 39) (.tmp 51) rfl w1.heap.size (.slice A5 (M.length + t) c5) (M.length + t) (pcells (M ++ stR x p j t)) rfl ?_ (some ⟨_, 0, none⟩) 1 1 [.int .i64 (x + (j : Int)), .int .i64 (x + ((p : Int) + (t : Int)))] rfl ?_ rfl (by simp [Value.oneCell']) ?_ ?_ ?_
                     · exact own_below0 ho.out (by (repeat (first | with_reducible exact Below.refl _ _ | with_reducible assumption | with_reducible refine below_drewN0 ?_ _ | with_reducible refine Below.drew ?_ | with_reducible refine Below.alloc ?_ ?_ _ | with_reducible refine Below.setCell ?_ ?_ _ | go_size | exact Below.size (by assumption))))
                     · exact reads_new _ [_, _] _
                     · omega
                     · go_size
                     intro v6 w6 hown6 hg6 hat6
                     have hb6 : Below w1.heap.size w1 w6 := below_app (by (repeat (first | with_reducible exact Below.refl _ _ | with_reducible assumption | with_reducible refine below_drewN0 ?_ _ | with_reducible refine Below.drew ?_ | with_reducible refine Below.alloc ?_ ?_ _ | with_reducible refine Below.setCell ?_ ?_ _ | go_size | exact Below.size (by assumption)))) hg6 (by go_size) (fun g hg => (own_lt0 ho.out g hg).1)
                     obtain ⟨A6, c6, rfl, hc6, _⟩ := own_reads0 hown6)))
                go_roundw
                case rel =>
                  refine ⟨t + 1, A6, c6, by omega, by go_num, rfl, ?_, hb6⟩
                  unfold Hid
                  refine own_cast hown6 (Nat.le_refl _) rfl ?_
                  rw [hRs.out, ← List.append_assoc, pcells_append (M ++ stR x p j t) [_]]
                  rfl
                case measure => simp [intOf]; omega
              · obtain rfl : t = q := by omega
                go_wp2_with fail
                go_roundw
                case rel =>
                  have hle : (L ++ stI x p t (j + 1)).length = M.length + t := by rw [hM0.out, List.length_append, stR_length]
                  refine ⟨j + 1, A5, c5, by omega, by go_num, by rw [hle], ?_, hb⟩
                  unfold Hid
                  rw [hle, hM0.out]
                  exact ho.out
                case measure => simp [intOf]; omega)
         · obtain rfl : j = p := by omega
           go_wp2_with fail
           go_roundw
           case rel => exact ⟨k + 1, A5, c5, by omega, by go_num, by rw [hpl.out], by rw [hpl.out]; exact ho, hb⟩
           case measure => simp [intOf]; omega)
    · obtain rfl : k = m := by omega
      obtain ⟨_, g1, _, _, g4, g5⟩ := HG.out wr hb
      have hgr := Nat.lt_of_lt_of_le hgl1 hb.size
      have HPR := pairs_any k es F g bF A c wr (hr1.below hb) hc hR hgr g1 (HRF.out.below hb HRF.out.lt) HFl.out hFb
      go_upto_region 17 with (first | (go_at_call 100; go_loud (refine HPR.mono ?_; rintro e w2 ⟨v, rfl, hov, hb2⟩; obtain ⟨A6, c6, rfl, hc6, hr6⟩ := own_reads0 hov)))
      clear g1 g4 g5 HPR hr6
      have hbs := hb.size
      have hb3 : Below w1.heap.size w1 w2 := hb.trans (hb2.mono hbs)
      have ho2 := Lib.hid (own_below0 ho.out hb2)
      have hov2 := Lib.hid (own_cast (base' := w1.heap.size) hov hbs rfl rfl)
      have hap : Hid (∀ g, (Value.slice A5 (stL F P C k).length c5).ownBlock = some g → (Value.slice A6 es.length c6).ownBlock ≠ some g) := fun g h1 h2 => by
        have a1 := own_lt0 ho.out g h1
        have a2 := own_lt0 hov g h2
        omega
      clear ho hov
      obtain ⟨prs, hprs⟩ : ∃ l, l = es.map (pairE F es) := ⟨_, rfl⟩
      have hpl : prs.length = es.length := by rw [hprs, List.length_map]
      rw [← hprs] at hov2
      have HPS := Lib.hid hprs
      clear hprs
      have hlay' : Hid (layL F P C k es = stL F P C k ++ prs.map mmE) := by unfold Hid layL; rw [HPS.out]
      rw [hlay'.out] at hE
      generalize stL F P C k = L at *
      simp only [List.length_append, List.length_map] at hE
      clear hlay
      go_loopw [5, 60] (fun v5 i wx => ∃ (t : Nat) (A5 : Option Addr) (c5 : Nat), t ≤ es.length ∧ i = .int .i64 t ∧ v5 = .slice A5 (L.length + t) c5 ∧ Hid (wx.ownsRow w1.heap.size 28 2 (.slice A5 (L.length + t) c5) (L.length + t) (pcells (L ++ (prs.take t).map mmE))) ∧
         Hid (wx.ownsRow w1.heap.size 28 2 (.slice A6 es.length c6) es.length (pcells prs)) ∧ Hid (∀ g, (Value.slice A5 (L.length + t) c5).ownBlock = some g → (Value.slice A6 es.length c6).ownBlock ≠ some g) ∧ Below w1.heap.size w1 wx) (fun _ i _ => es.length - (intOf i).toNat)
      case atStart => exact ⟨0, A5, c5, Nat.zero_le _, rfl, rfl, by simpa using ho2, hov2, hap, hb3⟩
      case round =>
        clear ho2 hov2 hap hb3 hb2 hb
        obtain ⟨t, A5, c5, ht, rfl, rfl, ho, hov, hap, hb⟩ := hrel
        by_cases htl : t < es.length
        · obtain ⟨⟨a, b⟩, hab⟩ : ∃ e, prs[t]? = some e := ⟨prs[t], by simp [hpl, htl]⟩
          have hr6 : Reads wr (some ⟨0, 0, none⟩) (pcells prs) ∨ True := .inr trivial
          obtain ⟨A7, c7, he7, hc7, hr7⟩ := own_reads0 hov.out
          cases he7
          obtain ⟨bb, oo, rfl, hbl, e1, e2⟩ := hr7.pair' t _ hab
          dsimp only at e1 e2
          have hMe : Hid (L ++ (prs.take (t + 1)).map mmE = (L ++ (prs.take t).map mmE) ++ [(min a b, max a b)]) := by
            unfold Hid
            rw [List.take_add_one, hab]
            simp [mmE]
          clear hab hr7 hr6
          go_upto_region 19 with fail
          have hoV := Lib.hid (own_below0 ho.out (Below.alloc (Below.refl wr.heap.size wr) (Nat.le_refl _) (Obj.cells #[Value.int .i64 a, Value.int .i64 b] 28)))
          have hovV := Lib.hid (own_below0 hov.out (Below.alloc (Below.refl wr.heap.size wr) (Nat.le_refl _) (Obj.cells #[Value.int .i64 a, Value.int .i64 b] 28)))
          have hbV : Below w1.heap.size w1 (wr.alloc (Obj.cells #[Value.int .i64 a, Value.int .i64 b] 28)) := hb.alloc hb.size _
          obtain ⟨y0, y1, y2, y3, y4⟩ := blk2 (heap_alloc_new wr (Obj.cells #[Value.int .i64 a, Value.int .i64 b] 28))
          generalize wr.alloc (Obj.cells #[Value.int .i64 a, Value.int .i64 b] 28) = V at *
          have hVs := hbV.size
          clear ho hov hb e1 e2
          go_wp2_with (first
            | (at_builtin; go_loud (
               refine wpList_app EI_edge rfl (.tmp 64) (.tmp 76) rfl w1.heap.size (.slice A5 (L.length + t) c5) (L.length + t) (pcells (L ++ (prs.take t).map mmE)) rfl ?_ (some ⟨_, 0, none⟩) 1 1 [.int .i64 (min a b), .int .i64 (max a b)] rfl ?_ rfl (by simp [Value.oneCell']) ?_ ?_ ?_
               · exact own_below0 hoV.out (by (repeat (first | with_reducible exact Below.refl _ _ | with_reducible assumption | with_reducible refine below_drewN0 ?_ _ | with_reducible refine Below.drew ?_ | with_reducible refine Below.alloc ?_ ?_ _ | with_reducible refine Below.setCell ?_ ?_ _ | go_size | exact Below.size (by assumption))))
               · exact reads_new _ [_, _] _
               · omega
               · go_size
               intro v6 w6 hown6 hg6 hat6
               obtain ⟨hb6, hov6, hap6⟩ := two_rows hbV hVs hoV.out hovV.out hap.out _ hg6 hat6
               obtain ⟨A7, c7, rfl, hc7, _⟩ := own_reads0 hown6)))
          go_roundw
          case rel =>
            refine ⟨t + 1, A7, c7, by omega, by go_num, rfl, ?_, hov6, hap6, hb6⟩
            unfold Hid
            rw [hMe.out]
            refine own_cast hown6 (Nat.le_refl _) rfl ?_
            rw [pcells_append (L ++ (prs.take t).map mmE) [_]]
            rfl
          case measure => simp [intOf]; omega
        · obtain rfl : t = es.length := by omega
          rw [← hpl, List.take_length, ← hlay'.out, hpl] at ho
          have hll : (layL F P C k es).length = L.length + es.length := by rw [hlay'.out, List.length_append, List.length_map, hpl]
          have hHK := HK.out
          clear hov hap hlay' HPS HK
          generalize layL F P C k es = LL at *
          have hss : (sortL LL).length = L.length + es.length := by rw [(sortL_perm LL).length_eq, hll]
          have hbs := hb.size
          have HSO := sortE_own LL A5 c5 w1.heap.size wr (by rw [hll]; exact ho.out) hbs (by omega)
          rw [hll] at HSO
          have HLI := fun W hr hc => lists_any N (sortL LL) A5 c5 W hr (by rw [hss]; exact hc) (by omega) hN (fun e he => hHK e ((sortL_perm LL).mem_iff.1 he))
          rw [hss] at HLI
          have hhl := Lib.hid hll
          clear hll hss hHK ho
          go_wp2_with (first
            | (go_at_call 67; go_loud (refine HSO.mono ?_; rintro e w3 ⟨rfl, hnc, hb3, hrs⟩; obtain ⟨g0, _⟩ := HG.out w3 (hb.trans hb3)))
            | (go_at_call 74; go_loud (refine (HLI _ (hrs _ (Nat.le_refl _) (fun _ _ _ => rfl)) hnc).mono ?_; rintro e w4 ⟨B4, vs4, rfl, hB4, _, hb4⟩; have hb14 : Below w1.heap.size w1 w4 := (hb.trans hb3).trans (hb4.mono (by have := hb3.size; omega)); have hz4 := HZ.out w4 hb14; obtain ⟨g0', _⟩ := HG.out w4 hb14)))
          go_ret
          have h3s := hb3.size
          have h4s := hb4.size
          refine ⟨A5, c5, by rw [hhl.out]; rfl, by rw [hhl.out]; exact hnc, ?_, ?_⟩
          · refine hrs _ (by rw [World.size_setCell]; exact h4s) fun kk h1 h2 => ?_
            rw [Below.heap_setCell _ _ _ _ (by dsimp only; omega)]
            exact hb4.block kk h2
          · exact ((hbw0.mono (by omega)).trans (hb14.mono (by omega))).setCell (p := ⟨g, 0, none⟩) hB _
end Go.Proofs.Ytglhdoibglafbaa

/- gadget.Edges of graphs of few edges. -/
namespace Go.Proofs.Ytglhdoibglafbaa
open Go Go.RowKit
set_option maxRecDepth 100000
set_option linter.unusedVariables false

/-- A row of edges, and no error, told. -/
def EdPost (l : List PE) (w : World) (e : Ending) (w' : World) : Prop :=
  ∃ A c, e = .returned (.tuple #[.slice A l.length c, .int .i64 0]) ∧ l.length ≤ c ∧ Reads w' A (pcells l) ∧ Below w.heap.size w w'
def gadF (m : Nat) (es : List (Int × Int)) (f : List Int) : List Int := upTo m m (gN (ports m es) f)
def edgesL (m : Nat) (es : List (Int × Int)) (f : List Int) : List PE := rfL es (plAll m es f) (plAll m es f).length

theorem gad_ok (m : Nat) (es : List (Int × Int)) (f : List Int) (hde : degErr m es f = 0) : GadOk m es (gadF m es f) (ports m es) (plC m es f) := by
  obtain ⟨hP, hfl, hfb, hs⟩ := degErr_small hde
  refine ⟨hP, fun v hv => ?_, fun v hv => ?_⟩
  · unfold nt
    rw [ports_at m es ((right_iff _ _).2 hP) v hv]; simp
  · unfold gadF off
    rw [upTo_get m m _ v hv, if_pos hv, placesL_len m es f hs v (by omega)]
    rfl
theorem gad_len (m : Nat) (es : List (Int × Int)) (f : List Int) (hde : degErr m es f = 0) (hl : es.length ≤ 100) : (gN (ports m es) f m).toNat = (plAll m es f).length ∧ (plAll m es f).length ≤ 65536 := by
  obtain ⟨hP, hfl, hfb, hs⟩ := degErr_small hde
  have h1 := placesL_len m es f hs m (Nat.le_refl _)
  have h2 := placesL_small m es f hde hl m (Nat.le_refl _)
  unfold plAll
  omega
theorem stL_gE (m : Nat) (es : List (Int × Int)) (f : List Int) (b : Int) (F : List Int) (hs : Small2 (ports m es) f) : ∀ k, k ≤ m → ((stL F (ports m es) (plC m es f) k).length : Int) + b = gE (ports m es) f b k := by
  intro k
  induction k with
  | zero => intro _; simp [stL, gE]
  | succ k ih =>
    intro hk
    have h1 := ih (by omega)
    have h2 := hs k
    rw [stL_succ, List.length_append, stI_length, gE, ← h1]
    have h3 : (plC m es f)[k]?.getD 0 = corE ((ports m es)[k]?.getD 0) (f[k]?.getD 0) := by rw [plC_get m es f k (by omega)]; rfl
    have h4 : 0 ≤ corE ((ports m es)[k]?.getD 0) (f[k]?.getD 0) := by unfold corE; omega
    unfold nt
    rw [h3]
    have e : (((ports m es)[k]?.getD 0).toNat * (corE ((ports m es)[k]?.getD 0) (f[k]?.getD 0)).toNat : Nat) = (ports m es)[k]?.getD 0 * corE ((ports m es)[k]?.getD 0) (f[k]?.getD 0) := by
      rw [Int.natCast_mul, Int.toNat_of_nonneg h2.1, Int.toNat_of_nonneg h4]
    push_cast at e ⊢
    omega
theorem lay_len (m : Nat) (es : List (Int × Int)) (f : List Int) (hde : degErr m es f = 0) (hl : es.length ≤ 100) : (layL (gadF m es f) (ports m es) (plC m es f) m es).length ≤ 90000 := by
  obtain ⟨hP, hfl, hfb, hs⟩ := degErr_small hde
  have h1 := stL_gE m es f es.length (gadF m es f) hs m (Nat.le_refl _)
  have hR : rightB m es = true := (right_iff _ _).2 hP
  have h2 := gE_deg m es f es.length hR (fun i => (hs i).2.2) m (Nat.le_refl _)
  have hS : degSum es m = 2 * es.length := degSum_all es m (fun e he => by have := hP.ok e he; omega)
  rw [hS] at h2
  have h3 : ((2 * es.length : Nat) : Int) * ((2 * es.length : Nat) : Int) ≤ 200 * 200 := Int.mul_le_mul (by omega) (by omega) (by omega) (by omega)
  unfold layL
  rw [List.length_append, List.length_map, List.length_map]
  omega

theorem edges_any (m : Nat) (es : List (Int × Int)) (f : List Int) (A Af : Option Addr) (c cf : Nat) (w : World) (hr : Reads w A (pcells es)) (hc : es.length ≤ c) (hl : es.length ≤ 100)
    (hrf : Reads w Af (icells f)) (hcf : f.length ≤ cf) (hmf : f.length ≤ 4611686018427387903) (hde : degErr m es f = 0) :
    Calls Try.prog 48 #[.agg #[.int .i64 (m : Int), .slice A es.length c], .slice Af f.length cf] w (EdPost (edgesL m es f) w) := by
  obtain ⟨hP, hfl, hfb, hs⟩ := degErr_small hde
  have hG := gad_ok m es f hde
  have hn := gad_len m es f hde hl
  have hnl := not_large m es f hde hl
  have hlen := lay_len m es f hde hl
  have hsort := lay_sorted hG
  have hm1 := hP.n1
  have hN := fun W hr hrf => new_any m es f A Af c cf W hr hc (by omega) hrf hcf hmf hde
  have hok : ∀ e ∈ layL (gadF m es f) (ports m es) (plC m es f) m es, 0 ≤ e.1 ∧ e.1 < ((plAll m es f).length : Int) ∧ 0 ≤ e.2 ∧ e.2 < ((plAll m es f).length : Int) := fun e he => by
    obtain ⟨a, b, ha, hb, hab, _, rfl⟩ := (mem_rfL _ _ _ _).1 ((mem_lay hG e).1 he)
    have : (placesL (ports m es) (plC m es f) m).length = (plAll m es f).length := rfl
    dsimp only
    omega
  have hFb : ∀ x ∈ gadF m es f, 0 ≤ x ∧ x ≤ 1000000 := fun x hx => by
    obtain ⟨i, hi, rfl⟩ := List.getElem_of_mem hx
    have hi' : i < m := by unfold gadF at hi; rwa [upTo_length] at hi
    have h1 := hG.hF i hi'
    rw [List.getElem?_eq_getElem hi] at h1
    simp only [Option.getD_some] at h1
    have h2 := off_mono (ports m es) (plC m es f) (show i ≤ m by omega)
    have h3 : off (ports m es) (plC m es f) m = (plAll m es f).length := rfl
    omega
  have hPb : ∀ x ∈ ports m es, 0 ≤ x ∧ x ≤ 65536 := fun x hx => by have := ports_bound m es x hx; omega
  have hCb : ∀ x ∈ plC m es f, 0 ≤ x ∧ x ≤ 65536 := fun x hx => by
    obtain ⟨i, hi, rfl⟩ := List.getElem_of_mem hx
    have hi' : i < m := by unfold plC at hi; rwa [upTo_length] at hi
    have h1 := plC_get m es f i hi'
    rw [List.getElem?_eq_getElem hi] at h1
    have h1' := Option.some.inj h1
    rw [h1']
    have h2 := hs i
    have h3 : (ports m es)[i]?.getD 0 ≤ 65536 := by
      cases h4 : (ports m es)[i]? with
      | none => simp
      | some y => exact (hPb y (List.mem_of_getElem? h4)).2
    unfold corE; omega
  have HLA := fun g bF bP bC bN E W hr hGA hB => lay_any m (plAll m es f).length es (gadF m es f) (ports m es) (plC m es f) g bF bP bC bN E A c w.heap.size W hr hc hP hGA (upTo_length _ _ _) (ports_length m es) (upTo_length _ _ _) hFb hPb hCb hlen (by omega) hok hB
  have hlen2 : (layL (gadF m es f) (ports m es) (plC m es f) m es).length = (edgesL m es f).length := by rw [← (sortL_perm _).length_eq, hsort]; rfl
  have HL2 := Lib.hid hlen2
  have HSO := Lib.hid hsort
  have HNL := Lib.hid (show ¬ (65536 < gN (ports m es) f m ∨ 1048576 < gE (ports m es) f es.length m) by omega)
  have HN1 := Lib.hid hn.1
  clear hfl hfb hs hG hn hnl hlen hsort hok hFb hPb hCb hlen2 hP
  go_enter Try.func48, Try.ntmps48
  go_wp2_with (first
    | (go_at_call 61; go_loud (
        refine (hN _ (hr.below ?_) (hrf.below ?_)).mono ?_
        · (repeat (first | with_reducible exact Below.refl _ _ | with_reducible assumption | with_reducible refine below_drewN0 ?_ _ | with_reducible refine Below.drew ?_ | with_reducible refine Below.alloc ?_ ?_ _ | with_reducible refine Below.setCell ?_ ?_ _ | go_size | exact Below.size (by assumption)))
        · (repeat (first | with_reducible exact Below.refl _ _ | with_reducible assumption | with_reducible refine below_drewN0 ?_ _ | with_reducible refine Below.drew ?_ | with_reducible refine Below.alloc ?_ ?_ _ | with_reducible refine Below.setCell ?_ ?_ _ | go_size | exact Below.size (by assumption)))
        rintro e w1 (⟨h, _⟩ | ⟨_, g, bF, bP, bC, bN, rfl, hb1, hg1, _, _, _, hGA⟩)
        · exact absurd h HNL.out
        rw [HN1.out] at hGA
        obtain ⟨q0, q1, q2, q3, q4⟩ := blk2 ((hb1.block w.heap.size (by simp)).trans (heap_alloc_new _ _))
        have hbw : Below w.heap.size w w1 := Below.trans (by (repeat (first | with_reducible exact Below.refl _ _ | with_reducible assumption | with_reducible refine below_drewN0 ?_ _ | with_reducible refine Below.drew ?_ | with_reducible refine Below.alloc ?_ ?_ _ | with_reducible refine Below.setCell ?_ ?_ _ | go_size | exact Below.size (by assumption)))) (hb1.mono (by simp))
        have hgg : w.heap.size ≤ g := by simp at hg1; omega
        have hGH := Lib.hid hGA
        clear hGA))
    | (go_at_call 76; go_loud (
        refine (HLA g bF bP bC bN _ _ (hr.below hbw) hGH.out hgg).mono ?_
        rintro e w2 ⟨A2, c2, rfl, hc2, hr2, hb2⟩)))
  go_ret2
  refine ⟨A2, c2, by rw [← HL2.out]; rfl, by rw [← HL2.out]; exact hc2, ?_, hbw.trans hb2⟩
  rw [HSO.out] at hr2
  exact hr2
end Go.Proofs.Ytglhdoibglafbaa

/- What the law GadgetPlaces counts: plain. -/
namespace Go.Proofs.Ytglhdoibglafbaa
open Go Go.RowKit
set_option maxRecDepth 100000
set_option linter.unusedVariables false

def cntV (l : List Pl) (b : Bool) (v : Nat) : Int := (l.countP (fun x => decide (x.1 = (v : Int)) && (x.2.2 == b)) : Nat)
def cntL (m : Nat) (l : List Pl) (b : Bool) : List Int := (List.range m).map (cntV l b)
theorem cntL_length (m : Nat) (l : List Pl) (b : Bool) : (cntL m l b).length = m := by simp [cntL]
theorem cntL_get (m : Nat) (l : List Pl) (b : Bool) (v : Nat) (hv : v < m) : (cntL m l b)[v]? = some (cntV l b v) := by simp [cntL, hv]
theorem cntL_nil (m : Nat) (b : Bool) : cntL m [] b = List.replicate m 0 := by
  unfold cntL
  apply List.ext_getElem
  · simp
  · intro i h1 h2; simp [cntV]
theorem cntV_snoc (l : List Pl) (x : Pl) (b : Bool) (v : Nat) : cntV (l ++ [x]) b v = cntV l b v + (if x.1 = (v : Int) ∧ x.2.2 = b then 1 else 0) := by
  unfold cntV
  rw [List.countP_append]
  by_cases h1 : x.1 = (v : Int) <;> by_cases h2 : x.2.2 = b <;> simp [List.countP_cons, h1, h2]
theorem cntL_same (m : Nat) (l : List Pl) (x : Pl) (b : Bool) (hb : x.2.2 ≠ b) : cntL m (l ++ [x]) b = cntL m l b := by
  unfold cntL
  apply List.map_congr_left
  intro v _
  rw [cntV_snoc, if_neg (fun h => hb h.2)]; omega
theorem cntL_set (m : Nat) (l : List Pl) (u : Nat) (i : Int) (b : Bool) : cntL m (l ++ [((u : Int), i, b)]) b = (cntL m l b).set u (cntV l b u + 1) := by
  apply List.ext_getElem?
  intro v
  rw [List.getElem?_set, cntL_length]
  by_cases hv : v < m
  · rw [cntL_get m _ b v hv, cntL_get m l b v hv, cntV_snoc]
    by_cases he : u = v
    · subst he; simp [hv]
    · have h : ¬ ((u : Int) = (v : Int)) := by omega
      rw [if_neg he, if_neg (fun hh => h hh.1)]; simp
  · have h1 : (cntL m (l ++ [((u : Int), i, b)]) b)[v]? = none := List.getElem?_eq_none (by rw [cntL_length]; omega)
    have h2 : (cntL m l b)[v]? = none := List.getElem?_eq_none (by rw [cntL_length]; omega)
    rw [h1, h2]
    by_cases he : u = v
    · subst he; simp [hv]
    · simp [he]
theorem cntV_app (l l' : List Pl) (b : Bool) (v : Nat) : cntV (l ++ l') b v = cntV l b v + cntV l' b v := by
  unfold cntV; rw [List.countP_append]; simp
theorem cntV_prt (u n : Nat) (b : Bool) (v : Nat) : cntV (prt u n) b v = if u = v ∧ b = false then (n : Int) else 0 := by
  induction n with
  | zero => simp [prt, cntV]
  | succ n ih =>
    rw [prt_succ, cntV_snoc, ih]
    have e : ((u : Int) = (v : Int)) ↔ u = v := by omega
    cases b <;> by_cases h : u = v <;> simp [h, e]
theorem cntV_cor (u n : Nat) (b : Bool) (v : Nat) : cntV (cor u n) b v = if u = v ∧ b = true then (n : Int) else 0 := by
  induction n with
  | zero => simp [cor, cntV]
  | succ n ih =>
    rw [cor_succ, cntV_snoc, ih]
    have e : ((u : Int) = (v : Int)) ↔ u = v := by omega
    cases b <;> by_cases h : u = v <;> simp [h, e]
theorem cntV_places (P C : List Int) (v : Nat) : ∀ m, cntV (placesL P C m) false v = (if v < m then (nt P v : Int) else 0) ∧ cntV (placesL P C m) true v = (if v < m then (nt C v : Int) else 0) := by
  intro m
  induction m with
  | zero => simp [placesL, cntV]
  | succ m ih =>
    rw [placesL_succ, cntV_app, cntV_app, cntV_app, cntV_app, ih.1, ih.2, cntV_prt, cntV_cor, cntV_prt, cntV_cor]
    by_cases h1 : m = v
    · subst h1; simp [nt]
    · by_cases h2 : v < m
      · simp [h1, h2, show v < m + 1 by omega]
      · simp [h1, h2, show ¬ v < m + 1 by omega]

/- Where an edge of the gadget's lies. -/
section
variable {m : Nat} {es : List (Int × Int)} {F P C : List Int}
theorem off_uniq {v v' x x' : Nat} (hx : x < nt P v + nt C v) (hx' : x' < nt P v' + nt C v') (h : off P C v + x = off P C v' + x') : v = v' ∧ x = x' := by
  have o1 := off_succ P C v
  have o2 := off_succ P C v'
  rcases Nat.lt_trichotomy v v' with h1 | h1 | h1
  · have := off_mono P C (show v + 1 ≤ v' by omega); omega
  · subst h1; exact ⟨rfl, by omega⟩
  · have := off_mono P C (show v' + 1 ≤ v by omega); omega
theorem near_uniq (hR : RightP (m : Int) es) {x y : Int} {s t : Nat} (hs : (nearL es x)[s]? = some y) (ht : (nearL es x)[t]? = some y) : s = t := by
  have hr := List.pairwise_iff_getElem.1 (nearL_rises hR x)
  rcases Nat.lt_trichotomy s t with h | h | h
  · have := hr s t (List.getElem?_eq_some_iff.1 hs).1 (List.getElem?_eq_some_iff.1 ht).1 h
    rw [(List.getElem?_eq_some_iff.1 hs).2, (List.getElem?_eq_some_iff.1 ht).2] at this
    omega
  · exact h
  · have := hr t s (List.getElem?_eq_some_iff.1 ht).1 (List.getElem?_eq_some_iff.1 hs).1 h
    rw [(List.getElem?_eq_some_iff.1 hs).2, (List.getElem?_eq_some_iff.1 ht).2] at this
    omega
theorem rfL_right (G : GadOk m es F P C) (hn : (placesL P C m).length ≤ 4096) (hl : (rfL es (placesL P C m) (placesL P C m).length).length ≤ 65536) : RightP ((placesL P C m).length : Int) (rfL es (placesL P C m) (placesL P C m).length) := by
  refine ⟨by omega, by omega, hl, fun e he => ?_, rfL_inc _ _ _⟩
  obtain ⟨a, b, ha, hb, hab, _, rfl⟩ := (mem_rfL _ _ _ _).1 he
  dsimp only; omega
/-- Of what a port is joined with: members. -/
theorem port_near (G : GadOk m es F P C) (v i b : Nat) (hv : v < m) (hi : i < nt P v) (hb : (nearL es (v : Int))[i]? = some (b : Int)) (hbm : b < m) (y : Int) :
    y ∈ nearL (rfL es (placesL P C m) (placesL P C m).length) ((off P C v + i : Nat) : Int) ↔ (∃ k, k < nt C v ∧ y = ((off P C v + (nt P v + k) : Nat) : Int)) ∨ y = slotL F es b v := by
  have hvb : (v : Int) ∈ nearL es (b : Int) := nearL_symm (List.mem_of_getElem? hb)
  obtain ⟨jb, hjb, sjb, njb⟩ := slot_at G b v hbm hvb
  rw [mem_nearL, ← mem_lay G, ← mem_lay G, layL, pairs_eq G, List.mem_append, List.mem_append, mem_stL G, mem_stL G]
  constructor
  · rintro ((⟨v', i', k', hv', hi', hk', he⟩ | he) | (⟨v', i', k', hv', hi', hk', he⟩ | he))
    · have h2 : off P C v + i = off P C v' + (nt P v' + k') := by have := congrArg Prod.snd he; simp at this; omega
      obtain ⟨rfl, h3⟩ := off_uniq (P := P) (C := C) (by omega) (by omega) h2
      omega
    · obtain ⟨d, hd, hde⟩ := List.mem_map.1 he
      obtain ⟨a0, b0, i0, j0, rfl, _, _, hi0, hj0, g1, g2, e1, _⟩ := pair_at G hd
      rw [e1] at hde
      have h2 : off P C b0 + j0 = off P C v + i := by have := congrArg Prod.snd hde; simp at this; omega
      obtain ⟨rfl, rfl⟩ := off_uniq (P := P) (C := C) (by omega) (by omega) h2
      rw [g2] at hb
      have hab : a0 = b := by have := Option.some.inj hb; omega
      subst hab
      have hij : i0 = jb := near_uniq G.R g1 njb
      subst hij
      right
      rw [sjb]
      exact (congrArg Prod.fst hde).symm
    · have h1 : off P C v + i = off P C v' + i' := by have := congrArg Prod.fst he; simp at this; omega
      obtain ⟨rfl, rfl⟩ := off_uniq (P := P) (C := C) (by omega) (by omega) h1
      left
      exact ⟨k', hk', congrArg Prod.snd he⟩
    · obtain ⟨d, hd, hde⟩ := List.mem_map.1 he
      obtain ⟨a0, b0, i0, j0, rfl, _, _, hi0, hj0, g1, g2, e1, _⟩ := pair_at G hd
      rw [e1] at hde
      have h2 : off P C a0 + i0 = off P C v + i := by have := congrArg Prod.fst hde; simp at this; omega
      obtain ⟨rfl, rfl⟩ := off_uniq (P := P) (C := C) (by omega) (by omega) h2
      rw [g1] at hb
      have hab : b0 = b := by have := Option.some.inj hb; omega
      subst hab
      have hij : j0 = jb := near_uniq G.R g2 njb
      subst hij
      right
      rw [sjb]
      exact (congrArg Prod.snd hde).symm
  · rintro (⟨k, hk, rfl⟩ | rfl)
    · right; left
      exact ⟨v, i, k, hv, hi, hk, rfl⟩
    · rcases mem_nearL.1 (List.mem_of_getElem? hb) with h | h
      · left; right
        refine List.mem_map.2 ⟨_, h, ?_⟩
        obtain ⟨a0, b0, i0, j0, he0, _, _, hi0, hj0, g1, g2, e1, _⟩ := pair_at G h
        have ha0 : b = a0 := by have := congrArg Prod.fst he0; simp at this; omega
        have hb0 : v = b0 := by have := congrArg Prod.snd he0; simp at this; omega
        subst ha0 hb0
        rw [e1, sjb, near_uniq G.R g2 hb, near_uniq G.R g1 njb]
      · right; right
        refine List.mem_map.2 ⟨_, h, ?_⟩
        obtain ⟨a0, b0, i0, j0, he0, _, _, hi0, hj0, g1, g2, e1, _⟩ := pair_at G h
        have ha0 : v = a0 := by have := congrArg Prod.fst he0; simp at this; omega
        have hb0 : b = b0 := by have := congrArg Prod.snd he0; simp at this; omega
        subst ha0 hb0
        rw [e1, sjb, near_uniq G.R g1 hb, near_uniq G.R g2 njb]
theorem core_near (G : GadOk m es F P C) (v i : Nat) (hv : v < m) (hi : i < nt C v) (y : Int) :
    y ∈ nearL (rfL es (placesL P C m) (placesL P C m).length) ((off P C v + (nt P v + i) : Nat) : Int) ↔ ∃ k, k < nt P v ∧ y = ((off P C v + k : Nat) : Int) := by
  rw [mem_nearL, ← mem_lay G, ← mem_lay G, layL, pairs_eq G, List.mem_append, List.mem_append, mem_stL G, mem_stL G]
  constructor
  · rintro ((⟨v', i', k', hv', hi', hk', he⟩ | he) | (⟨v', i', k', hv', hi', hk', he⟩ | he))
    · have h2 : off P C v + (nt P v + i) = off P C v' + (nt P v' + k') := by have := congrArg Prod.snd he; simp at this; omega
      obtain ⟨rfl, h3⟩ := off_uniq (P := P) (C := C) (by omega) (by omega) h2
      exact ⟨i', hi', congrArg Prod.fst he⟩
    · obtain ⟨d, hd, hde⟩ := List.mem_map.1 he
      obtain ⟨a0, b0, i0, j0, rfl, _, _, hi0, hj0, g1, g2, e1, _⟩ := pair_at G hd
      rw [e1] at hde
      have h2 : off P C b0 + j0 = off P C v + (nt P v + i) := by have := congrArg Prod.snd hde; simp at this; omega
      obtain ⟨rfl, h3⟩ := off_uniq (P := P) (C := C) (by omega) (by omega) h2
      omega
    · have h1 : off P C v + (nt P v + i) = off P C v' + i' := by have := congrArg Prod.fst he; simp at this; omega
      obtain ⟨rfl, h3⟩ := off_uniq (P := P) (C := C) (by omega) (by omega) h1
      omega
    · obtain ⟨d, hd, hde⟩ := List.mem_map.1 he
      obtain ⟨a0, b0, i0, j0, rfl, _, _, hi0, hj0, g1, g2, e1, _⟩ := pair_at G hd
      rw [e1] at hde
      have h2 : off P C a0 + i0 = off P C v + (nt P v + i) := by have := congrArg Prod.fst hde; simp at this; omega
      obtain ⟨rfl, h3⟩ := off_uniq (P := P) (C := C) (by omega) (by omega) h2
      omega
  · rintro ⟨k, hk, rfl⟩
    left; left
    exact ⟨v, k, i, hv, hk, hi, rfl⟩
theorem near_nodup {n : Int} {l : List (Int × Int)} (h : RightP n l) (x : Int) : (nearL l x).Nodup := by
  refine (nearL_rises h x).imp ?_
  intro a b hab; omega
theorem range_nodup (z : Nat) (n : Nat) : ((List.range n).map fun k : Nat => ((z + k : Nat) : Int)).Nodup := by
  unfold List.Nodup
  rw [List.pairwise_map]
  refine List.pairwise_lt_range.imp ?_
  intro a b hab; omega
theorem port_deg (G : GadOk m es F P C) (hRR : RightP ((placesL P C m).length : Int) (rfL es (placesL P C m) (placesL P C m).length)) (v i : Nat) (hv : v < m) (hi : i < nt P v) :
    (nearL (rfL es (placesL P C m) (placesL P C m).length) ((off P C v + i : Nat) : Int)).length = nt C v + 1 := by
  obtain ⟨bz, hbz⟩ : ∃ b : Int, (nearL es (v : Int))[i]? = some b := ⟨(nearL es (v : Int))[i]'(by rw [← G.hP v hv]; exact hi), by simp⟩
  have hbm : 0 ≤ bz ∧ bz < (m : Int) := by
    rcases mem_nearL.1 (List.mem_of_getElem? hbz) with h | h
    · have := G.R.ok _ h; simp at this; omega
    · have := G.R.ok _ h; simp at this; omega
  obtain ⟨b, rfl⟩ : ∃ b : Nat, bz = b := ⟨bz.toNat, by omega⟩
  have hvb : (v : Int) ∈ nearL es (b : Int) := nearL_symm (List.mem_of_getElem? hbz)
  have hbv : b ≠ v := fun h => by
    subst h
    rcases mem_nearL.1 hvb with h | h
    · have := G.R.ok _ h; simp at this
    · have := G.R.ok _ h; simp at this
  obtain ⟨jb, hjb, sjb, njb⟩ := slot_at G b v (by omega) hvb
  have hp : (nearL (rfL es (placesL P C m) (placesL P C m).length) ((off P C v + i : Nat) : Int)).Perm (((List.range (nt C v)).map fun k : Nat => (((off P C v + nt P v) + k : Nat) : Int)) ++ [slotL F es b v]) := by
    refine (List.perm_ext_iff_of_nodup (near_nodup hRR _) ?_).2 fun y => ?_
    · rw [List.nodup_append]
      refine ⟨range_nodup _ _, by simp, ?_⟩
      intro x hx z hz
      simp only [List.mem_singleton] at hz
      simp only [List.mem_map, List.mem_range] at hx
      obtain ⟨k, hk, rfl⟩ := hx
      rw [hz, sjb]
      intro h
      have h2 : off P C v + (nt P v + k) = off P C b + jb := by omega
      obtain ⟨h3, _⟩ := off_uniq (P := P) (C := C) (by omega) (by omega) h2
      exact hbv h3.symm
    · rw [port_near G v i b hv hi hbz (by omega), List.mem_append, List.mem_singleton]
      simp only [List.mem_map, List.mem_range]
      constructor
      · rintro (⟨k, hk, rfl⟩ | h)
        · exact .inl ⟨k, hk, by rw [Nat.add_assoc]⟩
        · exact .inr h
      · rintro (⟨k, hk, rfl⟩ | h)
        · exact .inl ⟨k, hk, by rw [Nat.add_assoc]⟩
        · exact .inr h
  rw [hp.length_eq]; simp
theorem core_deg (G : GadOk m es F P C) (hRR : RightP ((placesL P C m).length : Int) (rfL es (placesL P C m) (placesL P C m).length)) (v i : Nat) (hv : v < m) (hi : i < nt C v) :
    (nearL (rfL es (placesL P C m) (placesL P C m).length) ((off P C v + (nt P v + i) : Nat) : Int)).length = nt P v := by
  have hp : (nearL (rfL es (placesL P C m) (placesL P C m).length) ((off P C v + (nt P v + i) : Nat) : Int)).Perm ((List.range (nt P v)).map fun k : Nat => ((off P C v + k : Nat) : Int)) := by
    refine (List.perm_ext_iff_of_nodup (near_nodup hRR _) (range_nodup _ _)).2 fun y => ?_
    rw [core_near G v i hv hi]
    simp only [List.mem_map, List.mem_range]
    constructor
    · rintro ⟨k, hk, rfl⟩; exact ⟨k, hk, rfl⟩
    · rintro ⟨k, hk, rfl⟩; exact ⟨k, hk, rfl⟩
  rw [hp.length_eq]; simp
end
end Go.Proofs.Ytglhdoibglafbaa

/- What the law GadgetPlaces needs to know: packed. -/
namespace Go.Proofs.Ytglhdoibglafbaa
open Go Go.RowKit
set_option maxRecDepth 100000
set_option linter.unusedVariables false

theorem degErr_zero {m : Nat} {es : List (Int × Int)} {f : List Int} (hR : RightP m es) (hf : f.length = m) (hx : ∀ x ∈ f, 0 ≤ x ∧ x ≤ 4096) : degErr m es f = 0 := by
  unfold degErr
  rw [if_neg (by rw [(right_iff _ _).2 hR]; simp), if_neg (by omega), if_neg]
  rw [idxB_no badDeg f (fun j x hj => by
    have := hx x (List.mem_of_getElem? hj)
    unfold badDeg
    simp; omega)]
  omega
structure GpFacts (m : Nat) (es : List (Int × Int)) (f : List Int) (pl : List Pl) (el : List PE) : Prop where
  len : pl.length ≤ 4096
  right : RightP (pl.length : Int) el
  place : ∀ (a : Nat) (x : Pl), pl[a]? = some x → ∃ v : Nat, v < m ∧ x.1 = (v : Int) ∧ (ports pl.length el)[a]? = some (if x.2.2 = true then cntV pl false v else cntV pl true v + 1)
  count : ∀ v : Nat, v < m → cntV pl false v = ((nearL es (v : Int)).length : Int) ∧ cntV pl true v = max 0 (((nearL es (v : Int)).length : Int) - f[v]?.getD 0)
  small : ∀ (b : Bool) (v : Nat), 0 ≤ cntV pl b v ∧ cntV pl b v ≤ 4096

theorem gp_facts (m : Nat) (es : List (Int × Int)) (f : List Int) (hde : degErr m es f = 0) (hl : es.length ≤ 16) : GpFacts m es f (plAll m es f) (edgesL m es f) := by
  obtain ⟨hP, hfl, hfb, hs⟩ := degErr_small hde
  have hG := gad_ok m es f hde
  have hR : rightB m es = true := (right_iff _ _).2 hP
  have hS : degSum es m = 2 * es.length := degSum_all es m (fun e he => by have := hP.ok e he; omega)
  have hL : (plAll m es f).length ≤ 4096 := by
    have h1 := placesL_len m es f hs m (Nat.le_refl _)
    have h2 := gN_deg m es f hR (fun i => (hs i).2.2) m (Nat.le_refl _)
    rw [hS] at h2
    unfold plAll
    omega
  have hel : (edgesL m es f).length ≤ 65536 := by
    have h1 : edgesL m es f = sortL (layL (gadF m es f) (ports m es) (plC m es f) m es) := (lay_sorted hG).symm
    rw [h1, (sortL_perm _).length_eq]
    have h1 := stL_gE m es f es.length (gadF m es f) hs m (Nat.le_refl _)
    have h2 := gE_deg m es f es.length hR (fun i => (hs i).2.2) m (Nat.le_refl _)
    rw [hS] at h2
    have h3 : ((2 * es.length : Nat) : Int) * ((2 * es.length : Nat) : Int) ≤ 32 * 32 := Int.mul_le_mul (by omega) (by omega) (by omega) (by omega)
    unfold layL
    rw [List.length_append, List.length_map, List.length_map]
    omega
  have hRR : RightP ((plAll m es f).length : Int) (edgesL m es f) := rfL_right hG hL hel
  have hc := fun v => cntV_places (ports m es) (plC m es f) v m
  have hCC : ∀ v : Nat, v < m → (nt (plC m es f) v : Int) = max 0 (((nearL es (v : Int)).length : Int) - f[v]?.getD 0) := fun v hv => by
    unfold nt
    rw [plC_get m es f v hv]
    simp only [Option.getD_some]
    rw [ports_at m es hR v hv]
    unfold corE; omega
  refine ⟨hL, hRR, fun a x hx => ?_, fun v hv => ?_, fun b v => ?_⟩
  · have ha : a < off (ports m es) (plC m es f) m := (List.getElem?_eq_some_iff.1 hx).1
    obtain ⟨v, hv, ⟨i, hi, rfl⟩ | ⟨i, hi, rfl⟩⟩ := off_inv _ _ _ m ha
    · have h1 := pl_port (ports m es) (plC m es f) v i hi m hv
      rw [show plAll m es f = placesL (ports m es) (plC m es f) m from rfl, h1] at hx
      cases hx
      refine ⟨v, hv, rfl, ?_⟩
      rw [ports_near _ _ hRR.ok _ ha]
      have h2 := port_deg hG hRR v i hv hi
      have h3 := (hc v).2
      rw [if_pos hv] at h3
      rw [if_neg (by simp), show plAll m es f = placesL (ports m es) (plC m es f) m from rfl, h3]
      congr 1
      have h4 : ((nearL (edgesL m es f) ((off (ports m es) (plC m es f) v + i : Nat) : Int)).length) = nt (plC m es f) v + 1 := h2
      omega
    · have h1 := pl_core (ports m es) (plC m es f) v i hi m hv
      rw [show plAll m es f = placesL (ports m es) (plC m es f) m from rfl, h1] at hx
      cases hx
      refine ⟨v, hv, rfl, ?_⟩
      rw [ports_near _ _ hRR.ok _ ha]
      have h2 := core_deg hG hRR v i hv hi
      have h3 := (hc v).1
      rw [if_pos hv] at h3
      rw [if_pos rfl, show plAll m es f = placesL (ports m es) (plC m es f) m from rfl, h3]
      congr 1
      have h4 : ((nearL (edgesL m es f) ((off (ports m es) (plC m es f) v + (nt (ports m es) v + i) : Nat) : Int)).length) = nt (ports m es) v := h2
      omega
  · have h1 := hc v
    rw [if_pos hv, if_pos hv] at h1
    refine ⟨h1.1.trans ?_, h1.2.trans (hCC v hv)⟩
    rw [hG.hP v hv]
  · have h1 : cntV (plAll m es f) b v ≤ (plAll m es f).length := by unfold cntV; exact_mod_cast List.countP_le_length
    have h2 : 0 ≤ cntV (plAll m es f) b v := by unfold cntV; omega
    omega
end Go.Proofs.Ytglhdoibglafbaa

/- Walks of help's Same, Plain at places. -/
namespace Go.Proofs.Ytglhdoibglafbaa
open Go Go.RowKit
set_option maxRecDepth 100000
set_option linter.unusedVariables false

theorem plcells_get (l : List Pl) : ∀ (i : Nat) (e : Pl), l[i]? = some e → (plcells l)[i * 3]? = some (.int .i64 e.1) ∧ (plcells l)[i * 3 + 1]? = some (.int .i64 e.2.1) ∧ (plcells l)[i * 3 + 2]? = some (.bool e.2.2) := by
  induction l with
  | nil => intro i e h; simp at h
  | cons x l ih =>
    intro i e h
    have hp : plcells (x :: l) = .int .i64 x.1 :: .int .i64 x.2.1 :: .bool x.2.2 :: plcells l := rfl
    rw [hp]
    cases i with
    | zero => simp at h; subst h; simp
    | succ i =>
      have := ih i e (by simpa using h)
      rw [show (i + 1) * 3 = i * 3 + 3 by omega]
      simpa using this

theorem Reads.pl' {w : World} {A : Option Addr} {l : List Pl} (h : Reads w A (plcells l)) (i : Nat) (e : Pl) (hi : l[i]? = some e) :
    ∃ b o, A = some ⟨b, o, none⟩ ∧ b < w.heap.size ∧ w.cell? ⟨b, o + i * 3, none⟩ = some (.int .i64 e.1) ∧ w.cell? ⟨b, o + i * 3 + 1, none⟩ = some (.int .i64 e.2.1) ∧ w.cell? ⟨b, o + i * 3 + 2, none⟩ = some (.bool e.2.2) := by
  rcases h with h | ⟨b, o, h1, h2, h3⟩
  · have := plcells_length l
    rw [h] at this
    have h9 := (List.getElem?_eq_some_iff.1 hi).1
    simp only [List.length_nil] at this
    omega
  · obtain ⟨g1, g2, g3⟩ := plcells_get l i e hi
    exact ⟨b, o, h1, h2, h3 _ _ g1, h3 _ _ g2, h3 _ _ g3⟩

theorem eqP (a b c d : Int) (s t : Bool) (w : World) : Calls Try.prog 78 #[.agg #[.int .i64 a, .int .i64 b, .bool s], .agg #[.int .i64 c, .int .i64 d, .bool t]] w fun e w' => e = .returned (.bool (decide (((a, b, s) : Pl) = (c, d, t)))) ∧ Below w.heap.size w w' := by
  by_cases h : a = c
  · subst h
    by_cases h2 : b = d
    · subst h2
      cases s <;> cases t <;> (
        go_enter Try.func78, Try.ntmps78
        go_wp2
        go_ret
        exact ⟨by simp, by (repeat (first | with_reducible exact Below.refl _ _ | with_reducible assumption | with_reducible refine below_drewN0 ?_ _ | with_reducible refine Below.drew ?_ | with_reducible refine Below.alloc ?_ ?_ _ | with_reducible refine Below.setCell ?_ ?_ _ | go_size | exact Below.size (by assumption)))⟩)
    · go_enter Try.func78, Try.ntmps78
      go_wp2
      go_ret
      exact ⟨by simp [h2], by (repeat (first | with_reducible exact Below.refl _ _ | with_reducible assumption | with_reducible refine below_drewN0 ?_ _ | with_reducible refine Below.drew ?_ | with_reducible refine Below.alloc ?_ ?_ _ | with_reducible refine Below.setCell ?_ ?_ _ | go_size | exact Below.size (by assumption)))⟩
  · go_enter Try.func78, Try.ntmps78
    go_wp2
    go_ret
    exact ⟨by simp [h], by (repeat (first | with_reducible exact Below.refl _ _ | with_reducible assumption | with_reducible refine below_drewN0 ?_ _ | with_reducible refine Below.drew ?_ | with_reducible refine Below.alloc ?_ ?_ _ | with_reducible refine Below.setCell ?_ ?_ _ | go_size | exact Below.size (by assumption)))⟩
theorem eqPP (x y : Pl) (w : World) : Calls Try.prog 78 #[.agg #[.int .i64 x.1, .int .i64 x.2.1, .bool x.2.2], .agg #[.int .i64 y.1, .int .i64 y.2.1, .bool y.2.2]] w fun e w' => e = .returned (.bool (decide (x = y))) ∧ Below w.heap.size w w' := eqP x.1 x.2.1 y.1 y.2.1 x.2.2 y.2.2 w

set_option maxHeartbeats 2000000 in
theorem sameP (l1 l2 : List (Pl)) (A1 A2 : Option Addr) (c1 c2 : Nat) (w : World) (h1 : Reads w A1 (plcells l1)) (h2 : Reads w A2 (plcells l2)) (hc1 : l1.length ≤ c1) (hc2 : l2.length ≤ c2) (hm1 : l1.length ≤ 4611686018427387903) (hm2 : l2.length ≤ 4611686018427387903) :
    Calls Try.prog 77 #[.slice A1 l1.length c1, .slice A2 l2.length c2, .func (.func 78) #[] #[]] w fun e w' => e = .returned (.bool (decide (l1 = l2))) ∧ Below w.heap.size w w' := by
  by_cases hl : l1.length = l2.length
  · have HD : ∀ k, (∀ i : Nat, i < k → l1[i]? = l2[i]?) → l1.length ≤ k → l1 = l2 := fun k h hk => by
      apply List.ext_getElem?
      intro i
      by_cases hi : i < l1.length
      · exact h i (by omega)
      · rw [List.getElem?_eq_none (by omega), List.getElem?_eq_none (by omega)]
    have hl2 : ((l1.length : Int) != (l2.length : Int)) = false := by simp [hl]
    have HL := Lib.hid hl
    clear hl
    go_enter Try.func77, Try.ntmps77
    go_wp2_with fail
    go_loopw [7] (fun i wr => ∃ k : Nat, k ≤ l1.length ∧ i = .int .i64 k ∧ Hid (∀ i : Nat, i < k → l1[i]? = l2[i]?) ∧ Below w.heap.size w wr) (fun i _ => l1.length - (intOf i).toNat)
    case atStart => exact ⟨0, Nat.zero_le _, rfl, fun i h => by omega, Below.refl _ _⟩
    case round =>
      obtain ⟨k, hk, rfl, hall, hb⟩ := hrel
      have hbs := hb.size
      by_cases hlt : k < l1.length
      · have hk2 : (k : Int) < (l2.length : Int) := by have := HL.out; omega
        have hk2' : k < l2.length := by have := HL.out; omega
        (obtain ⟨x, hx⟩ : ∃ x, l1[k]? = some x := ⟨l1[k], by simp [hlt]⟩
         obtain ⟨y, hy⟩ : ∃ y, l2[k]? = some y := ⟨l2[k], by simp⟩
         obtain ⟨b1, o1, rfl, hb1, e1, e1', e1''⟩ := (h1.below hb).pl' k x hx
         obtain ⟨b2, o2, rfl, hb2, e2, e2', e2''⟩ := (h2.below hb).pl' k y hy
         have hdum : True := trivial)
        have HX := Lib.hid hx
        have HY := Lib.hid hy
        clear hx hy h1 h2
        by_cases hxy : x = y
        · subst hxy
          have HD9 := Lib.hid HD
          clear HD
          go_wp2_with fail
          (refine wp_quiet_tail 9 (by kernel_rfl) (by kernel_rfl) ?_
           simp only [List.take_succ_cons, List.take_zero, List.drop_succ_cons, List.drop_zero]
           repeat (go_big_quiet_step (fail))
           refine wpQuiet_nil ?_
           intro _ hw'
           obtain ⟨nq, hw''⟩ := hw'
           subst hw'')
          go_wp2_with (go_at_call 78; refine (eqPP _ _ _).mono ?_; simp only [decide_true]; rintro e w1 ⟨rfl, hb1⟩)
          go_roundw
          case rel => exact ⟨k + 1, by omega, by go_num, fun i hi => (by
            by_cases h9 : i = k
            · subst h9; rw [HX.out, HY.out]
            · exact hall.out i (by omega)), hb.trans (Below.trans (by (repeat (first | with_reducible exact Below.refl _ _ | with_reducible assumption | with_reducible refine below_drewN0 ?_ _ | with_reducible refine Below.drew ?_ | with_reducible refine Below.alloc ?_ ?_ _ | with_reducible refine Below.setCell ?_ ?_ _ | go_size | exact Below.size (by assumption)))) (hb1.mono (by simp; try omega)))⟩
          case measure => simp [intOf]; omega
        · have hne : decide (l1 = l2) = false := decide_eq_false (fun h => by
            have := HX.out
            rw [h, HY.out] at this
            exact hxy (by simpa using this.symm))
          have HNE := Lib.hid hne
          have hd := decide_eq_false hxy
          have HD9 := Lib.hid HD
          clear HD hxy hne
          go_wp2_with fail
          (refine wp_quiet_tail 9 (by kernel_rfl) (by kernel_rfl) ?_
           simp only [List.take_succ_cons, List.take_zero, List.drop_succ_cons, List.drop_zero]
           repeat (go_big_quiet_step (fail))
           refine wpQuiet_nil ?_
           intro _ hw'
           obtain ⟨nq, hw''⟩ := hw'
           subst hw'')
          go_wp2_with (go_at_call 78; refine (eqPP _ _ _).mono ?_; simp only [hd]; rintro e w1 ⟨rfl, hb1⟩)
          go_ret
          exact ⟨by rw [HNE.out]; rfl, hb.trans (Below.trans (by (repeat (first | with_reducible exact Below.refl _ _ | with_reducible assumption | with_reducible refine below_drewN0 ?_ _ | with_reducible refine Below.drew ?_ | with_reducible refine Below.alloc ?_ ?_ _ | with_reducible refine Below.setCell ?_ ?_ _ | go_size | exact Below.size (by assumption)))) (hb1.mono (by simp; try omega)))⟩
      · have hne : decide (l1 = l2) = true := decide_eq_true (HD k hall.out (by omega))
        have HNE := Lib.hid hne
        clear HD hne
        go_wp2_with fail
        go_ret
        exact ⟨by rw [HNE.out]; rfl, hb⟩
  · have hl2 : ((l1.length : Int) != (l2.length : Int)) = true := by simp; omega
    have hne : decide (l1 = l2) = false := decide_eq_false (fun h => hl (by rw [h]))
    rw [hne]
    clear hne hl
    go_enter Try.func77, Try.ntmps77
    go_wp2_with fail
    go_ret
    exact ⟨rfl, Below.refl _ _⟩

theorem sameP_plain (l1 l2 : List (Pl)) (A1 A2 : Option Addr) (c1 c2 : Nat) (w : World) (h1 : Reads w A1 (plcells l1)) (h2 : Reads w A2 (plcells l2)) (hc1 : l1.length ≤ c1) (hc2 : l2.length ≤ c2) (hm1 : l1.length ≤ 4611686018427387903) (hm2 : l2.length ≤ 4611686018427387903) :
    Calls Try.prog 50 #[.slice A1 l1.length c1, .slice A2 l2.length c2] w fun e w' => e = .returned (.bool (decide (l1 = l2))) ∧ Below w.heap.size w w' := by
  have HS := sameP l1 l2 A1 A2 c1 c2 w h1 h2 hc1 hc2 hm1 hm2
  generalize decide (l1 = l2) = d at *
  clear h1 h2
  go_enter Try.func50, Try.ntmps50
  go_wp2_with (go_at_call 77; refine HS.mono ?_; rintro e w1 ⟨rfl, hb1⟩)
  go_ret
  exact ⟨rfl, hb1⟩
end Go.Proofs.Ytglhdoibglafbaa
