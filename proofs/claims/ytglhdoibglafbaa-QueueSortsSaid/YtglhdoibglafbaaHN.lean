/- Walks of help's Plain, Own, Kept and of slices.Clone at entries. -/
import Derived.Test.YtglhdoibglafbaaH2
import Derived.Test.YtglhdoibglafbaaS1
import Derived.Test.YtglhdoibglafbaaQ6
namespace Go.Proofs.Ytglhdoibglafbaa
open Go Go.RowKit
set_option maxRecDepth 100000
set_option linter.unusedVariables false

theorem eqN (a b c d : Int) (w : World) : Calls Try.prog 82 #[.agg #[.int .i64 a, .int .i64 b], .agg #[.int .i64 c, .int .i64 d]] w fun e w' => e = .returned (.bool (decide ((a, b) = (c, d)))) ∧ Below w.heap.size w w' := by
  by_cases h : a = c
  · subst h
    by_cases h2 : b = d
    · subst h2
      go_enter Try.func82, Try.ntmps82
      go_wp2
      go_ret
      exact ⟨by simp, by (repeat (first | with_reducible exact Below.refl _ _ | with_reducible assumption | with_reducible refine below_drewN0 ?_ _ | with_reducible refine Below.drew ?_ | with_reducible refine Below.alloc ?_ ?_ _ | with_reducible refine Below.setCell ?_ ?_ _ | go_size | exact Below.size (by assumption)))⟩
    · go_enter Try.func82, Try.ntmps82
      go_wp2
      go_ret
      exact ⟨by simp [h2], by (repeat (first | with_reducible exact Below.refl _ _ | with_reducible assumption | with_reducible refine below_drewN0 ?_ _ | with_reducible refine Below.drew ?_ | with_reducible refine Below.alloc ?_ ?_ _ | with_reducible refine Below.setCell ?_ ?_ _ | go_size | exact Below.size (by assumption)))⟩
  · go_enter Try.func82, Try.ntmps82
    go_wp2
    go_ret
    exact ⟨by simp [h], by (repeat (first | with_reducible exact Below.refl _ _ | with_reducible assumption | with_reducible refine below_drewN0 ?_ _ | with_reducible refine Below.drew ?_ | with_reducible refine Below.alloc ?_ ?_ _ | with_reducible refine Below.setCell ?_ ?_ _ | go_size | exact Below.size (by assumption)))⟩
theorem eqNP (x y : Int × Int) (w : World) : Calls Try.prog 82 #[.agg #[.int .i64 x.1, .int .i64 x.2], .agg #[.int .i64 y.1, .int .i64 y.2]] w fun e w' => e = .returned (.bool (decide (x = y))) ∧ Below w.heap.size w w' := eqN x.1 x.2 y.1 y.2 w
set_option maxHeartbeats 2000000 in
theorem sameN (l1 l2 : List (Int × Int)) (A1 A2 : Option Addr) (c1 c2 : Nat) (w : World) (h1 : Reads w A1 (pcells l1)) (h2 : Reads w A2 (pcells l2)) (hc1 : l1.length ≤ c1) (hc2 : l2.length ≤ c2) (hm1 : l1.length ≤ 4611686018427387903) (hm2 : l2.length ≤ 4611686018427387903) :
    Calls Try.prog 81 #[.slice A1 l1.length c1, .slice A2 l2.length c2, .func (.func 82) #[] #[]] w fun e w' => e = .returned (.bool (decide (l1 = l2))) ∧ Below w.heap.size w w' := by
  by_cases hl : l1.length = l2.length
  · have HD : ∀ k, (∀ i : Nat, i < k → l1[i]? = l2[i]?) → l1.length ≤ k → l1 = l2 := fun k h hk => by
      apply List.ext_getElem?
      intro i
      by_cases hi : i < l1.length
      · exact h i (by omega)
      · rw [List.getElem?_eq_none (by omega), List.getElem?_eq_none (by omega)]
    have hl2 : ((l1.length : Int) != (l2.length : Int)) = false := by simp [hl]
    have HL := Lib.hid hl
    clear hl
    go_enter Try.func81, Try.ntmps81
    go_wp2_with fail
    go_loopw [7] (fun i wr => ∃ k : Nat, k ≤ l1.length ∧ i = .int .i64 k ∧ Hid (∀ i : Nat, i < k → l1[i]? = l2[i]?) ∧ Below w.heap.size w wr) (fun i _ => l1.length - (intOf i).toNat)
    case atStart => exact ⟨0, Nat.zero_le _, rfl, fun i h => by omega, Below.refl _ _⟩
    case round =>
      obtain ⟨k, hk, rfl, hall, hb⟩ := hrel
      have hbs := hb.size
      by_cases hlt : k < l1.length
      · have hk2 : (k : Int) < (l2.length : Int) := by have := HL.out; omega
        have hk2' : k < l2.length := by have := HL.out; omega
        (obtain ⟨x, hx⟩ : ∃ x, l1[k]? = some x := ⟨l1[k], by simp [hlt]⟩
         obtain ⟨y, hy⟩ : ∃ y, l2[k]? = some y := ⟨l2[k], by simp⟩
         obtain ⟨b1, o1, rfl, hb1, e1, e1'⟩ := (h1.below hb).pair' k x hx
         obtain ⟨b2, o2, rfl, hb2, e2, e2'⟩ := (h2.below hb).pair' k y hy
         have hdum : True := trivial)
        have HX := Lib.hid hx
        have HY := Lib.hid hy
        clear hx hy h1 h2
        by_cases hxy : x = y
        · subst hxy
          have HD9 := Lib.hid HD
          clear HD
          go_wp2_with fail
          (refine wp_quiet_tail 9 (by kernel_rfl) (by kernel_rfl) ?_
           simp only [List.take_succ_cons, List.take_zero, List.drop_succ_cons, List.drop_zero]
           repeat (go_big_quiet_step (fail))
           refine wpQuiet_nil ?_
           intro _ hw'
           obtain ⟨nq, hw''⟩ := hw'
           subst hw'')
          go_wp2_with (go_at_call 82; refine (eqNP _ _ _).mono ?_; simp only [decide_true]; rintro e w1 ⟨rfl, hb1⟩)
          go_roundw
          case rel => exact ⟨k + 1, by omega, by go_num, fun i hi => (by
            by_cases h9 : i = k
            · subst h9; rw [HX.out, HY.out]
            · exact hall.out i (by omega)), hb.trans (Below.trans (by (repeat (first | with_reducible exact Below.refl _ _ | with_reducible assumption | with_reducible refine below_drewN0 ?_ _ | with_reducible refine Below.drew ?_ | with_reducible refine Below.alloc ?_ ?_ _ | with_reducible refine Below.setCell ?_ ?_ _ | go_size | exact Below.size (by assumption)))) (hb1.mono (by simp; try omega)))⟩
          case measure => simp [intOf]; omega
        · have hne : decide (l1 = l2) = false := decide_eq_false (fun h => by
            have := HX.out
            rw [h, HY.out] at this
            exact hxy (by simpa using this.symm))
          have HNE := Lib.hid hne
          have hd := decide_eq_false hxy
          have HD9 := Lib.hid HD
          clear HD hxy hne
          go_wp2_with fail
          (refine wp_quiet_tail 9 (by kernel_rfl) (by kernel_rfl) ?_
           simp only [List.take_succ_cons, List.take_zero, List.drop_succ_cons, List.drop_zero]
           repeat (go_big_quiet_step (fail))
           refine wpQuiet_nil ?_
           intro _ hw'
           obtain ⟨nq, hw''⟩ := hw'
           subst hw'')
          go_wp2_with (go_at_call 82; refine (eqNP _ _ _).mono ?_; simp only [hd]; rintro e w1 ⟨rfl, hb1⟩)
          go_ret
          exact ⟨by rw [HNE.out]; rfl, hb.trans (Below.trans (by (repeat (first | with_reducible exact Below.refl _ _ | with_reducible assumption | with_reducible refine below_drewN0 ?_ _ | with_reducible refine Below.drew ?_ | with_reducible refine Below.alloc ?_ ?_ _ | with_reducible refine Below.setCell ?_ ?_ _ | go_size | exact Below.size (by assumption)))) (hb1.mono (by simp; try omega)))⟩
      · have hne : decide (l1 = l2) = true := decide_eq_true (HD k hall.out (by omega))
        have HNE := Lib.hid hne
        clear HD hne
        go_wp2_with fail
        go_ret
        exact ⟨by rw [HNE.out]; rfl, hb⟩
  · have hl2 : ((l1.length : Int) != (l2.length : Int)) = true := by simp; omega
    have hne : decide (l1 = l2) = false := decide_eq_false (fun h => hl (by rw [h]))
    rw [hne]
    clear hne hl
    go_enter Try.func81, Try.ntmps81
    go_wp2_with fail
    go_ret
    exact ⟨rfl, Below.refl _ _⟩

theorem sameN_plain (l1 l2 : List (Int × Int)) (A1 A2 : Option Addr) (c1 c2 : Nat) (w : World) (h1 : Reads w A1 (pcells l1)) (h2 : Reads w A2 (pcells l2)) (hc1 : l1.length ≤ c1) (hc2 : l2.length ≤ c2) (hm1 : l1.length ≤ 4611686018427387903) (hm2 : l2.length ≤ 4611686018427387903) :
    Calls Try.prog 54 #[.slice A1 l1.length c1, .slice A2 l2.length c2] w fun e w' => e = .returned (.bool (decide (l1 = l2))) ∧ Below w.heap.size w w' := by
  have HS := sameN l1 l2 A1 A2 c1 c2 w h1 h2 hc1 hc2 hm1 hm2
  generalize decide (l1 = l2) = d at *
  clear h1 h2
  go_enter Try.func54, Try.ntmps54
  go_wp2_with (go_at_call 81; refine HS.mono ?_; rintro e w1 ⟨rfl, hb1⟩)
  go_ret
  exact ⟨rfl, hb1⟩

set_option maxHeartbeats 2000000 in
theorem ownN (l : List (Int × Int)) (f1 f2 : Int) (A : Option Addr) (c : Nat) (w : World) (hr : Reads w A (pcells l)) (hc : l.length ≤ c) (hm : l.length ≤ 1000000) :
    Calls Try.prog 53 #[.slice A l.length c, .agg #[.int .i64 f1, .int .i64 f2]] w (OwnP 39 pcells l (f1, f2) w) := by
  obtain ⟨i0, hi0, hz0, hs0, hb0⟩ := info_parts (EI_ent).hinfo
  have hmk : ∀ w0 : World, (Instr.makeSlice 34 (.int .i64 0) (.int .i64 ((l.length : Int) + 3))).run Try.prog w0 = .ok (.slice (some ⟨w0.heap.size, 0, none⟩) 0 (l.length + 3)) (w0.alloc (.cells (pcells (List.replicate (l.length + 3) (0, 0))).toArray 39)) := fun w0 => by
    have h := run_make (P := Try.prog) w0 34 39 i0 (.agg #[.int .i64 0, .int .i64 0]) (EI_ent).ht hi0 hz0 .i64 .i64 0 ((l.length : Int) + 3) (by omega) (by omega) (by rw [hb0]; omega) (by omega)
    rw [h, hs0, show ((l.length : Int) + 3).toNat = l.length + 3 by omega, ← madeP]
    try rfl
  have HMK := Lib.hid hmk
  clear hmk
  go_enter Try.func53, Try.ntmps53
  have hmk := HMK.out
  go_upto_region 2 with fail
  clear hmk HMK hi0 hz0 hs0 hb0
  generalize hW : (w.alloc (Obj.cells #[Value.int .i64 f1, Value.int .i64 f2] 39)).alloc (Obj.cells (pcells (List.replicate (l.length + 3) (0, 0))).toArray 39) = W
  have hbW : Below w.heap.size w W := by rw [← hW]; (repeat (first | with_reducible exact Below.refl _ _ | with_reducible assumption | with_reducible refine below_drewN0 ?_ _ | with_reducible refine Below.drew ?_ | with_reducible refine Below.alloc ?_ ?_ _ | with_reducible refine Below.setCell ?_ ?_ _ | go_size | exact Below.size (by assumption)))
  have hF : W.heap[w.heap.size]? = some (.cells #[Value.int .i64 f1, Value.int .i64 f2] 39 (0, 0)) := by rw [← hW]; exact heap_old (heap_alloc_new w _)
  have hG : W.heap[w.heap.size + 1]? = some (.cells (pcells (List.replicate (l.length + 3) (0, 0))).toArray 39 (0, 0)) := by
    rw [← hW]
    have h := heap_alloc_new (w.alloc (Obj.cells #[Value.int .i64 f1, Value.int .i64 f2] 39)) (Obj.cells (pcells (List.replicate (l.length + 3) (0, 0))).toArray 39)
    rwa [World.size_alloc] at h
  have hrW := hr.below hbW
  have HF := Lib.hid hF
  have HG := Lib.hid hG
  clear hW hF hG hr
  have hll : (pcells l).length = l.length * 2 := by simp [pcells_length]; try omega
  have HLL := Lib.hid hll
  clear hll
  have i1 : (l.length : Int) + 3 ≤ ((l.length + 3 : Nat) : Int) := by omega
  have i2 : (0 : Int) ≤ (l.length : Int) + 3 := by omega
  have i3 : ((l.length : Int) + 3).toNat = l.length + 3 := by omega
  go_upto_region 4 with (first
    | (at_builtin; go_loud (
       refine wpList_room EI_ent rfl (.tmp 12) (.tmp 13) rfl (w.heap.size + 1) (pcells (List.replicate (l.length + 3) (0, 0))) 0 (l.length + 3) rfl HG.out ?_ A l.length c (pcells l) rfl hrW HLL.out (pcells_one l) ?_ ?_
       · simp [pcells_length]; try omega
       · omega
       intro w2 hG2 hg2
       have hb2 : Below w.heap.size w w2 := hbW.grown hg2 hbW.size (fun k hk => by cases hk; omega)
       have hF2 := Lib.hid ((hg2.block w.heap.size (heap_lt0 HF.out) (by simp)).trans HF.out)
       have HG2 : Hid (w2.heap[w.heap.size + 1]? = some (.cells (pcells (l ++ (List.replicate 0 (f1, f2) ++ List.replicate (3 - 0) (0, 0)))).toArray 39 (0, 0))) := by
         unfold Hid
         rw [hG2]
         simp only [Nat.zero_mul, List.take_zero, List.nil_append, Nat.zero_add, List.replicate_zero]
         rw [pcells_drop0, List.drop_replicate, show l.length + 3 - l.length = 3 by omega, pcells_append]
       clear hG2)))
  go_wp2_with fail
  clear hrW hbW
  go_loopw [7] (fun i wr => ∃ j : Nat, j ≤ 3 ∧ i = .int .i64 ((l.length + j : Nat) : Int) ∧ Hid (wr.heap[w.heap.size]? = some (.cells #[Value.int .i64 f1, Value.int .i64 f2] 39 (0, 0))) ∧ Hid (wr.heap[w.heap.size + 1]? = some (.cells (pcells (l ++ (List.replicate j (f1, f2) ++ List.replicate (3 - j) (0, 0)))).toArray 39 (0, 0))) ∧ Below w.heap.size w wr) (fun i _ => l.length + 3 - (intOf i).toNat)
  case atStart => exact ⟨0, by omega, rfl, hF2, HG2, hb2⟩
  case round =>
    clear hF2 HG2 hb2 hg2
    obtain ⟨j, hj, rfl, hF, hG, hb⟩ := hrel
    by_cases hlt : j < 3
    · have hfc := fun i v => blkc0 hF.out i v
      have hlF := heap_lt0 hF.out
      have hlG := heap_lt0 hG.out
      (have hx0 := hfc 0 _ rfl
       have hx1 := hfc 1 _ rfl
       have hpg := pcells_get _ _ _ (fill_get l (f1, f2) ((0 : Int), (0 : Int)) j hlt)
       rw [Nat.mul_comm] at hpg
       have hy0 := blkc0 hG.out _ _ (List.getElem?_toArray.trans hpg.1)
       have hy1 := blkc0 hG.out _ _ (List.getElem?_toArray.trans hpg.2)
       have hz0 := blkf0 hG.out ((l.length + j) * 2)
       have hz1 := blkf0 hG.out ((l.length + j) * 2 + 1)
       have j1 : ((l.length + j : Nat) : Int) < ((l.length + 3 : Nat) : Int) := by omega
       have j2 : l.length + j < l.length + 3 := by omega
       clear hpg hfc
       go_wp2_with fail)
      go_roundw
      case rel =>
        refine ⟨j + 1, by omega, by go_num, ?_, ?_, by (repeat (first | with_reducible exact Below.refl _ _ | with_reducible assumption | with_reducible refine below_drewN0 ?_ _ | with_reducible refine Below.drew ?_ | with_reducible refine Below.alloc ?_ ?_ _ | with_reducible refine Below.setCell ?_ ?_ _ | go_size | exact Below.size (by assumption)))⟩
        · exact heap_far (heap_far hF.out (by dsimp only; omega) _) (by dsimp only; omega) _
        · (have h9 := blk_put (blk_put hG.out ((l.length + j) * 2) (.int .i64 f1)) ((l.length + j) * 2 + 1) (.int .i64 f2)
           have h8 := fill_get l (f1, f2) ((0 : Int), (0 : Int)) j hlt
           rw [pcells_set0 _ _ _ _ f1 h8, pcells_set1 _ _ f1 0 f2 (by rw [List.getElem?_set_self (List.getElem?_eq_some_iff.1 h8).1]), List.set_set, fill_step _ _ _ _ hlt] at h9
           exact h9)
      case measure => simp [intOf]; omega
    · obtain rfl : j = 3 := by omega
      go_wp2_with fail
      go_ret
      refine ⟨_, rfl, by omega, ?_, hb⟩
      have h9 := hG.out
      simpa using h9

set_option maxHeartbeats 2000000 in
theorem keptN (l : List (Int × Int)) (f1 f2 : Int) (g : Nat) (A : Option Addr) (c : Nat) (w : World) (hr : Reads w A (pcells l)) (hc : l.length ≤ c) (hm : l.length ≤ 1000000) (hG : w.heap[g]? = some (.cells (pcells (l ++ List.replicate 3 (f1, f2))).toArray 39 (0, 0))) :
    Calls Try.prog 56 #[.slice (some ⟨g, 0, none⟩) l.length (l.length + 3), .slice A l.length c, .agg #[.int .i64 f1, .int .i64 f2]] w fun e w' => e = .returned (.bool true) ∧ Below w.heap.size w w' := by
  have hrg : Reads w (some ⟨g, 0, none⟩) (pcells l) := by
    have := reads_blk hG
    rw [pcells_append] at this
    exact this.front
  have hlg := heap_lt0 hG
  have HP := fun W hR1 hR2 => sameN_plain l l (some ⟨g, 0, none⟩) A (l.length + 3) c W hR1 hR2 (by omega) hc (by omega) (by omega)
  simp only [decide_true] at HP
  have HG := Lib.hid hG
  clear hG
  have i0 : decide (((l.length + 3 : Nat) : Int) < (l.length : Int) + 3) = false := decide_eq_false (by omega)
  have i1 : (l.length : Int) + 3 ≤ ((l.length + 3 : Nat) : Int) := by omega
  have i2 : (0 : Int) ≤ (l.length : Int) + 3 := by omega
  have i3 : ((l.length : Int) + 3).toNat = l.length + 3 := by omega
  go_enter Try.func56, Try.ntmps56
  go_wp2_with (first
    | (go_at_call 54; refine (HP _ (hrg.below ?_) (hr.below ?_)).mono ?_; (repeat (first | with_reducible exact Below.refl _ _ | with_reducible assumption | with_reducible refine below_drewN0 ?_ _ | with_reducible refine Below.drew ?_ | with_reducible refine Below.alloc ?_ ?_ _ | with_reducible refine Below.setCell ?_ ?_ _ | go_size | exact Below.size (by assumption))); (repeat (first | with_reducible exact Below.refl _ _ | with_reducible assumption | with_reducible refine below_drewN0 ?_ _ | with_reducible refine Below.drew ?_ | with_reducible refine Below.alloc ?_ ?_ _ | with_reducible refine Below.setCell ?_ ?_ _ | go_size | exact Below.size (by assumption))); rintro e w1 ⟨rfl, hb1⟩
       have hF := Lib.hid ((hb1.block w.heap.size (by simp)).trans (heap_alloc_new w (Obj.cells #[Value.int .i64 f1, Value.int .i64 f2] 39)))
       have hG1 := Lib.hid ((hb1.block g (by simp; omega)).trans (heap_old HG.out))
       have hbw : Below w.heap.size w w1 := Below.trans (by (repeat (first | with_reducible exact Below.refl _ _ | with_reducible assumption | with_reducible refine below_drewN0 ?_ _ | with_reducible refine Below.drew ?_ | with_reducible refine Below.alloc ?_ ?_ _ | with_reducible refine Below.setCell ?_ ?_ _ | go_size | exact Below.size (by assumption)))) (hb1.mono (by simp))
       clear hb1))
  go_loopw [8] (fun i wr => ∃ j : Nat, j ≤ 3 ∧ i = .int .i64 ((l.length + j : Nat) : Int) ∧ Hid (Below w1.heap.size w1 wr)) (fun i _ => l.length + 3 - (intOf i).toNat)
  case atStart => exact ⟨0, by omega, rfl, Below.refl _ _⟩
  case round =>
    obtain ⟨j, hj, rfl, hb⟩ := hrel
    have hF' := (hb.out.block w.heap.size (heap_lt0 hF.out)).trans hF.out
    have hG' := (hb.out.block g (heap_lt0 hG1.out)).trans hG1.out
    by_cases hlt : j < 3
    · obtain ⟨x0, x1, _, _, _⟩ := blk2 hF'
      have hpg := pcells_get _ _ _ (kept_get l (f1, f2) j hlt)
      rw [Nat.mul_comm] at hpg
      have hy0 := blkc0 hG' _ _ (List.getElem?_toArray.trans hpg.1)
      have hy1 := blkc0 hG' _ _ (List.getElem?_toArray.trans hpg.2)
      have j1 : ((l.length + j : Nat) : Int) < ((l.length + 3 : Nat) : Int) := by omega
      have j2 : l.length + j < l.length + 3 := by omega
      clear hpg hF' hG'
      go_wp2_with fail
      go_quiet (fail)
      go_wp2_with fail
      go_roundw
      case rel => exact ⟨j + 1, by omega, by go_num, hb.out.trans (by (repeat (first | with_reducible exact Below.refl _ _ | with_reducible assumption | with_reducible refine below_drewN0 ?_ _ | with_reducible refine Below.drew ?_ | with_reducible refine Below.alloc ?_ ?_ _ | with_reducible refine Below.setCell ?_ ?_ _ | go_size | exact Below.size (by assumption))))⟩
      case measure => simp [intOf]; omega
    · obtain rfl : j = 3 := by omega
      clear hF' hG'
      go_wp2_with fail
      go_ret
      exact ⟨rfl, hbw.trans (hb.out.mono hbw.size)⟩

def OwnPostN (B : Nat) (es : List (Int × Int)) (w : World) (e : Ending) (w' : World) : Prop :=
  ∃ v, e = .returned v ∧ w'.ownsRow B 39 2 v es.length (pcells es) ∧ Below B w w'

theorem cloneN (es : List (Int × Int)) (A : Option Addr) (c : Nat) (w : World) (hr : Reads w A (pcells es)) (hc : es.length ≤ c) (hm : es.length ≤ 1000000) :
    Calls Try.prog 83 #[.slice A es.length c] w (OwnPostN w.heap.size es w) := by
  cases A with
  | none =>
    have h0 : es = [] := by
      rcases hr with h | ⟨b, o, h, _⟩
      · have := pcells_length es; rw [h] at this; simp at this; exact List.eq_nil_of_length_eq_zero (by omega)
      · cases h
    subst h0
    have hnl : ∀ w0 : World, (binOp .eql 34 (.slice none 0 c) (.slice none 0 0)).run Try.prog w0 = .ok (.bool true) w0 := fun w0 => by
      rw [Lib.run_eql_slice_nil w0 34 39 _ _ _ _ _ Try.underlying34]; rfl
    simp only [List.length_nil]
    go_enter Try.func83, Try.ntmps83
    go_wp2_with fail
    go_ret
    exact ⟨_, rfl, own_nil0 _ _ _ _, Below.refl _ _⟩
  | some ad =>
    have hpl := Lib.hid (pcells_length es)
    have hnl : ∀ w0 : World, (binOp .eql 34 (.slice (some ad) es.length c) (.slice none 0 0)).run Try.prog w0 = .ok (.bool false) w0 := fun w0 => by
      rw [Lib.run_eql_slice_nil w0 34 39 _ _ _ _ _ Try.underlying34]; rfl
    go_enter Try.func83, Try.ntmps83
    go_wp2_with (first
      | (at_builtin; go_loud (
         refine wpList_app EI_ent rfl (.tmp 5) (.tmp 6) rfl w.heap.size (.slice (some ⟨w.heap.size, 0, none⟩) 0 0) 0 [] rfl ?_ (some ad) es.length c (pcells es) rfl ?_ ?_ (pcells_one es) ?_ ?_ ?_
         · exact own_shut (cur := []) (Nat.le_refl _) (heap_alloc_new w _) (Nat.le_refl _) (by decide) (by simp) (by simp)
         · exact hr.below (by (repeat (first | with_reducible exact Below.refl _ _ | with_reducible assumption | with_reducible refine below_drewN0 ?_ _ | with_reducible refine Below.drew ?_ | with_reducible refine Below.alloc ?_ ?_ _ | with_reducible refine Below.setCell ?_ ?_ _ | go_size | exact Below.size (by assumption))))
         · rw [hpl.out]; omega
         · omega
         · go_size
         intro v1 w1 hown1 hg1 hat1
         have hb1 : Below w.heap.size w w1 := below_app (by (repeat (first | with_reducible exact Below.refl _ _ | with_reducible assumption | with_reducible refine below_drewN0 ?_ _ | with_reducible refine Below.drew ?_ | with_reducible refine Below.alloc ?_ ?_ _ | with_reducible refine Below.setCell ?_ ?_ _ | go_size | exact Below.size (by assumption)))) hg1 (by go_size) (fun g hg => by simp [Value.ownBlock] at hg; omega)
         obtain ⟨A1, c1, rfl, hc1, hr1⟩ := own_reads0 hown1
         simp only [Nat.zero_add, List.nil_append] at hown1)))
    go_ret
    exact ⟨_, rfl, hown1, hb1⟩

end Go.Proofs.Ytglhdoibglafbaa
