/- The walk of the law GraphTells. -/
import Derived.Test.YtglhdoibglafbaaA7
import Derived.Test.YtglhdoibglafbaaH2
import Derived.Test.YtglhdoibglafbaaD5
namespace Go.Proofs.Ytglhdoibglafbaa
open Go Go.RowKit
set_option maxRecDepth 100000
set_option linter.unusedVariables false


set_option maxHeartbeats 4000000 in
theorem tells_any (n a b : Int) (es : List (Int × Int)) (A : Option Addr) (c : Nat) (w : World) (hr : Reads w A (pcells es)) (hc : es.length ≤ c) (hm : es.length ≤ 4611686018427387903) :
    Calls Try.prog 6 #[.agg #[.int .i64 n, .slice A es.length c], .int .i64 a, .int .i64 b] w fun e w' => e = .returned (.bool true) ∧ Below w.heap.size w w' := by
  have HA := fun W => awake02 W
  by_cases h60 : 60 < es.length
  · have h60' : decide ((60 : Int) < (es.length : Int)) = true := decide_eq_true (by omega)
    go_enter Try.func6, Try.ntmps6
    go_wp2_with (first | (go_at_call 25; refine (HA _).mono ?_; rintro e w1 ⟨rfl, hb1⟩))
    go_ret
    exact ⟨rfl, Below.trans (by (repeat (first | with_reducible exact Below.refl _ _ | with_reducible assumption | with_reducible refine below_drewN0 ?_ _ | with_reducible refine Below.drew ?_ | with_reducible refine Below.alloc ?_ ?_ _ | with_reducible refine Below.setCell ?_ ?_ _ | go_size | exact Below.size (by assumption)))) (hb1.mono (by simp))⟩
  have h60' : decide ((60 : Int) < (es.length : Int)) = false := decide_eq_false (by omega)
  have HO := fun W hR => ownE es 71 0 A c W hR hc (by omega)
  have HK := fun g W hR hG => keptE es 71 0 g A c W hR hc (by omega) hG
  have HR1 := fun A c W hR hc => right_any n es A c W hR hc hm
  have HR2 := fun A c W hR hc => refRight n es A c W hR hc hm
  have HH1 := fun A c W hR hc => has_any n a b es A c W hR hc hm
  have HH2 := fun A c W hR hc => refHas n a b es A c W hR hc hm
  have HI1 := fun A c W hR hc => index_any n a b es A c W hR hc hm
  have HI2 := fun A c W hR hc => refIndex n a b es A c W hR hc hm
  have HN1 := fun A c W hR hc => near_any n a es A c W hR hc hm
  have HN2 := fun A c W hR hc => refNear_any n a es A c W hR hc hm
  have HD := fun A c W hR hc => degree_any n a es A c W hR hc hm
  have hln : (nearB n es a).length ≤ 200 := by
    unfold nearB
    split
    · have := nearL_length es a; omega
    · simp
  have HP := fun A1 A2 c1 c2 W h1 h2 hc1 hc2 => sameI_plain (nearB n es a) (nearB n es a) A1 A2 c1 c2 W h1 h2 hc1 hc2 (by omega) (by omega)
  simp only [decide_true] at HP
  generalize rightB n es = b1 at HR1 HR2
  generalize hasB n es a b = b2 at HH1 HH2
  generalize indexB n es a b = b3 at HI1 HI2
  generalize nearB n es a = l at HN1 HN2 HD HP hln
  go_enter Try.func6, Try.ntmps6
  go_upto_region 3 with fail
  have hg0 := blk2 (heap_alloc_new w (Obj.cells #[Value.int .i64 n, Value.slice A es.length c] 25))
  generalize hW : w.alloc (Obj.cells #[Value.int .i64 n, Value.slice A es.length c] 25) = W at *
  have hbW : Below w.heap.size w W := by rw [← hW]; (repeat (first | with_reducible exact Below.refl _ _ | with_reducible assumption | with_reducible refine below_drewN0 ?_ _ | with_reducible refine Below.drew ?_ | with_reducible refine Below.alloc ?_ ?_ _ | with_reducible refine Below.setCell ?_ ?_ _ | go_size | exact Below.size (by assumption)))
  have hrW := hr.below hbW
  clear hW hr
  have HS := Lib.hid (fun (w' : World) (h : Below W.heap.size W w') => (⟨(h.cell (p := ⟨w.heap.size, 0, none⟩) hg0.2.2.2.2).trans hg0.1, (h.cell (p := ⟨w.heap.size, 1, none⟩) hg0.2.2.2.2).trans hg0.2.1⟩ : w'.cell? ⟨w.heap.size, 0, none⟩ = some (.int .i64 n) ∧ w'.cell? ⟨w.heap.size, 1, none⟩ = some (.slice A es.length c)))
  have hgl := hg0.2.2.2.2
  clear hg0
  obtain ⟨k0, k1⟩ := HS.out W (Below.refl _ _)
  go_cut [7] (fun v7 wc => ∃ (q g : Nat), v7 = .pointer (some ⟨q, 0, none⟩) ∧ Hid (wc.heap[q]? = some (.cells #[Value.int .i64 n, Value.slice (some ⟨g, 0, none⟩) es.length (es.length + 3)] 25 (0, 0))) ∧ Hid (wc.heap[g]? = some (.cells (pcells (es ++ List.replicate 3 ((71 : Int), (0 : Int)))).toArray 28 (0, 0))) ∧ Below W.heap.size W wc)
  case first =>
    go_region_held3 (fun w' => w'.cell? ⟨w.heap.size, 0, none⟩ = some (.int .i64 n) ∧ w'.cell? ⟨w.heap.size, 1, none⟩ = some (.slice A es.length c)) (first | exact HS.out _ hb1 | (refine HS.out _ ?_; (repeat (first | with_reducible exact Below.refl _ _ | with_reducible assumption | with_reducible refine below_drewN0 ?_ _ | with_reducible refine Below.drew ?_ | with_reducible refine Below.alloc ?_ ?_ _ | with_reducible refine Below.setCell ?_ ?_ _ | go_size | exact Below.size (by assumption))); done))
      (first | (go_at_call 26; go_loud (refine (HO _ (hrW.below ?_)).mono ?_; (repeat (first | with_reducible exact Below.refl _ _ | with_reducible assumption | with_reducible refine below_drewN0 ?_ _ | with_reducible refine Below.drew ?_ | with_reducible refine Below.alloc ?_ ?_ _ | with_reducible refine Below.setCell ?_ ?_ _ | go_size | exact Below.size (by assumption))); rintro e w1 ⟨g, rfl, hgW, hG, hbx⟩; (first | (obtain ⟨y0, y1, y2, y3, y4⟩ := blk2 ((hbx.block W.heap.size (by simp)).trans (heap_alloc_new _ _))) | skip); have hb1 : Below W.heap.size W w1 := Below.trans (by (repeat (first | with_reducible exact Below.refl _ _ | with_reducible assumption | with_reducible refine below_drewN0 ?_ _ | with_reducible refine Below.drew ?_ | with_reducible refine Below.alloc ?_ ?_ _ | with_reducible refine Below.setCell ?_ ?_ _ | go_size | exact Below.size (by assumption)))) (hbx.mono (by go_size)); have hlt1 : w.heap.size < w1.heap.size := Nat.lt_of_lt_of_le hgl hb1.size; have hlt2 : W.heap.size ≤ w1.heap.size := hb1.size)))
    · go_wp2_with fail
      go_meet
      exact ⟨_, g, rfl, heap_alloc_new _ _, heap_old hG, by (repeat (first | with_reducible exact Below.refl _ _ | with_reducible assumption | with_reducible refine below_drewN0 ?_ _ | with_reducible refine Below.drew ?_ | with_reducible refine Below.alloc ?_ ?_ _ | with_reducible refine Below.setCell ?_ ?_ _ | go_size | exact Below.size (by assumption)))⟩
    · go_wp2_with fail
      go_meet
      refine ⟨_, g, rfl, heap_set2 ((hbx.block W.heap.size (by simp)).trans (heap_alloc_new _ _)) _ _, ?_, by (repeat (first | with_reducible exact Below.refl _ _ | with_reducible assumption | with_reducible refine below_drewN0 ?_ _ | with_reducible refine Below.drew ?_ | with_reducible refine Below.alloc ?_ ?_ _ | with_reducible refine Below.setCell ?_ ?_ _ | go_size | exact Below.size (by assumption)))⟩
      have : g ≠ W.heap.size := by simp at hgW; omega
      exact heap_far (heap_far hG (by dsimp only; omega) _) (by dsimp only; omega) _
  case rest =>
    obtain ⟨q, g, rfl, hQ, hG, hbc⟩ := hcut
    clear k0 k1 HO
    obtain ⟨q0, q1, _, _, hql⟩ := blk2 hQ.out
    obtain ⟨g0, g1⟩ := HS.out _ hbc
    have hgl2 : w.heap.size < wc.heap.size := Nat.lt_of_lt_of_le hgl hbc.size
    have hrV := hrW.below hbc
    have hrI : Reads wc (some ⟨g, 0, none⟩) (pcells es) := by
      have := reads_blk hG.out
      rw [pcells_append] at this
      exact this.front
    have hcI : es.length ≤ es.length + 3 := by omega
    obtain ⟨V, rfl⟩ : ∃ V : World, V = wc := ⟨_, rfl⟩
    have HSV := Lib.hid (fun (w' : World) (h : Below V.heap.size V w') => (⟨(h.cell (p := ⟨w.heap.size, 0, none⟩) hgl2).trans g0, (h.cell (p := ⟨w.heap.size, 1, none⟩) hgl2).trans g1, (h.cell (p := ⟨q, 0, none⟩) hql).trans q0, (h.cell (p := ⟨q, 1, none⟩) hql).trans q1⟩ : w'.cell? ⟨w.heap.size, 0, none⟩ = some (.int .i64 n) ∧ w'.cell? ⟨w.heap.size, 1, none⟩ = some (.slice A es.length c) ∧ w'.cell? ⟨q, 0, none⟩ = some (.int .i64 n) ∧ w'.cell? ⟨q, 1, none⟩ = some (.slice (some ⟨g, 0, none⟩) es.length (es.length + 3))))
    have hcur : Below V.heap.size V V := Below.refl _ _
    have hgl3 := heap_lt0 hG.out
    clear hrW HS
    go_wp2_with fail
    go_region_held3 (fun w' => w'.cell? ⟨w.heap.size, 0, none⟩ = some (.int .i64 n) ∧ w'.cell? ⟨w.heap.size, 1, none⟩ = some (.slice A es.length c) ∧ w'.cell? ⟨q, 0, none⟩ = some (.int .i64 n) ∧ w'.cell? ⟨q, 1, none⟩ = some (.slice (some ⟨g, 0, none⟩) es.length (es.length + 3)))
      (first | exact HSV.out _ hcur | (refine HSV.out _ ?_; (repeat (first | with_reducible exact Below.refl _ _ | with_reducible assumption | with_reducible refine below_drewN0 ?_ _ | with_reducible refine Below.drew ?_ | with_reducible refine Below.alloc ?_ ?_ _ | with_reducible refine Below.setCell ?_ ?_ _ | go_size | exact Below.size (by assumption))); done))
      (first
        | (go_at_call 25; go_loud ((refine (HA _).mono ?_; rintro e wx ⟨rfl, hbx⟩; (have hcur' : Below V.heap.size V wx := Below.trans (by (repeat (first | with_reducible exact Below.refl _ _ | with_reducible assumption | with_reducible refine below_drewN0 ?_ _ | with_reducible refine Below.drew ?_ | with_reducible refine Below.alloc ?_ ?_ _ | with_reducible refine Below.setCell ?_ ?_ _ | go_size | exact Below.size (by assumption)))) (hbx.mono (by have := hcur.size; go_size)); clear hbx hcur; have hcur := hcur'; clear hcur'))))
        | (go_at_call 31; go_loud (refine (HR1 _ _ _ (hrI.below ?_) hcI).mono ?_; (repeat (first | with_reducible exact Below.refl _ _ | with_reducible assumption | with_reducible refine below_drewN0 ?_ _ | with_reducible refine Below.drew ?_ | with_reducible refine Below.alloc ?_ ?_ _ | with_reducible refine Below.setCell ?_ ?_ _ | go_size | exact Below.size (by assumption))); rintro e wx ⟨rfl, hbx⟩; (have hcur' : Below V.heap.size V wx := Below.trans (by (repeat (first | with_reducible exact Below.refl _ _ | with_reducible assumption | with_reducible refine below_drewN0 ?_ _ | with_reducible refine Below.drew ?_ | with_reducible refine Below.alloc ?_ ?_ _ | with_reducible refine Below.setCell ?_ ?_ _ | go_size | exact Below.size (by assumption)))) (hbx.mono (by have := hcur.size; go_size)); clear hbx hcur; have hcur := hcur'; clear hcur')))
        | (go_at_call 32; go_loud (refine (HR2 _ _ _ (hrV.below ?_) hc).mono ?_; (repeat (first | with_reducible exact Below.refl _ _ | with_reducible assumption | with_reducible refine below_drewN0 ?_ _ | with_reducible refine Below.drew ?_ | with_reducible refine Below.alloc ?_ ?_ _ | with_reducible refine Below.setCell ?_ ?_ _ | go_size | exact Below.size (by assumption))); rintro e wx ⟨rfl, hbx⟩; (have hcur' : Below V.heap.size V wx := Below.trans (by (repeat (first | with_reducible exact Below.refl _ _ | with_reducible assumption | with_reducible refine below_drewN0 ?_ _ | with_reducible refine Below.drew ?_ | with_reducible refine Below.alloc ?_ ?_ _ | with_reducible refine Below.setCell ?_ ?_ _ | go_size | exact Below.size (by assumption)))) (hbx.mono (by have := hcur.size; go_size)); clear hbx hcur; have hcur := hcur'; clear hcur')))
        | (go_at_call 33; go_loud (refine (HH1 _ _ _ (hrI.below ?_) hcI).mono ?_; (repeat (first | with_reducible exact Below.refl _ _ | with_reducible assumption | with_reducible refine below_drewN0 ?_ _ | with_reducible refine Below.drew ?_ | with_reducible refine Below.alloc ?_ ?_ _ | with_reducible refine Below.setCell ?_ ?_ _ | go_size | exact Below.size (by assumption))); rintro e wx ⟨rfl, hbx⟩; (have hcur' : Below V.heap.size V wx := Below.trans (by (repeat (first | with_reducible exact Below.refl _ _ | with_reducible assumption | with_reducible refine below_drewN0 ?_ _ | with_reducible refine Below.drew ?_ | with_reducible refine Below.alloc ?_ ?_ _ | with_reducible refine Below.setCell ?_ ?_ _ | go_size | exact Below.size (by assumption)))) (hbx.mono (by have := hcur.size; go_size)); clear hbx hcur; have hcur := hcur'; clear hcur')))
        | (go_at_call 34; go_loud (refine (HH2 _ _ _ (hrV.below ?_) hc).mono ?_; (repeat (first | with_reducible exact Below.refl _ _ | with_reducible assumption | with_reducible refine below_drewN0 ?_ _ | with_reducible refine Below.drew ?_ | with_reducible refine Below.alloc ?_ ?_ _ | with_reducible refine Below.setCell ?_ ?_ _ | go_size | exact Below.size (by assumption))); rintro e wx ⟨rfl, hbx⟩; (have hcur' : Below V.heap.size V wx := Below.trans (by (repeat (first | with_reducible exact Below.refl _ _ | with_reducible assumption | with_reducible refine below_drewN0 ?_ _ | with_reducible refine Below.drew ?_ | with_reducible refine Below.alloc ?_ ?_ _ | with_reducible refine Below.setCell ?_ ?_ _ | go_size | exact Below.size (by assumption)))) (hbx.mono (by have := hcur.size; go_size)); clear hbx hcur; have hcur := hcur'; clear hcur')))
        | (go_at_call 35; go_loud (refine (HI1 _ _ _ (hrI.below ?_) hcI).mono ?_; (repeat (first | with_reducible exact Below.refl _ _ | with_reducible assumption | with_reducible refine below_drewN0 ?_ _ | with_reducible refine Below.drew ?_ | with_reducible refine Below.alloc ?_ ?_ _ | with_reducible refine Below.setCell ?_ ?_ _ | go_size | exact Below.size (by assumption))); rintro e wx ⟨rfl, hbx⟩; (have hcur' : Below V.heap.size V wx := Below.trans (by (repeat (first | with_reducible exact Below.refl _ _ | with_reducible assumption | with_reducible refine below_drewN0 ?_ _ | with_reducible refine Below.drew ?_ | with_reducible refine Below.alloc ?_ ?_ _ | with_reducible refine Below.setCell ?_ ?_ _ | go_size | exact Below.size (by assumption)))) (hbx.mono (by have := hcur.size; go_size)); clear hbx hcur; have hcur := hcur'; clear hcur')))
        | (go_at_call 36; go_loud (refine (HI2 _ _ _ (hrV.below ?_) hc).mono ?_; (repeat (first | with_reducible exact Below.refl _ _ | with_reducible assumption | with_reducible refine below_drewN0 ?_ _ | with_reducible refine Below.drew ?_ | with_reducible refine Below.alloc ?_ ?_ _ | with_reducible refine Below.setCell ?_ ?_ _ | go_size | exact Below.size (by assumption))); rintro e wx ⟨rfl, hbx⟩; (have hcur' : Below V.heap.size V wx := Below.trans (by (repeat (first | with_reducible exact Below.refl _ _ | with_reducible assumption | with_reducible refine below_drewN0 ?_ _ | with_reducible refine Below.drew ?_ | with_reducible refine Below.alloc ?_ ?_ _ | with_reducible refine Below.setCell ?_ ?_ _ | go_size | exact Below.size (by assumption)))) (hbx.mono (by have := hcur.size; go_size)); clear hbx hcur; have hcur := hcur'; clear hcur')))
        | (go_at_call 38; go_loud (refine (HN1 _ _ _ (hrI.below ?_) hcI).mono ?_; (repeat (first | with_reducible exact Below.refl _ _ | with_reducible assumption | with_reducible refine below_drewN0 ?_ _ | with_reducible refine Below.drew ?_ | with_reducible refine Below.alloc ?_ ?_ _ | with_reducible refine Below.setCell ?_ ?_ _ | go_size | exact Below.size (by assumption))); rintro e wx ⟨A5, c5, rfl, hc5, hrd5, hbx⟩; (have hcur' : Below V.heap.size V wx := Below.trans (by (repeat (first | with_reducible exact Below.refl _ _ | with_reducible assumption | with_reducible refine below_drewN0 ?_ _ | with_reducible refine Below.drew ?_ | with_reducible refine Below.alloc ?_ ?_ _ | with_reducible refine Below.setCell ?_ ?_ _ | go_size | exact Below.size (by assumption)))) (hbx.mono (by have := hcur.size; go_size)); clear hbx hcur; have hcur := hcur'; clear hcur')))
        | (go_at_call 39; go_loud (refine (HN2 _ _ _ (hrV.below ?_) hc).mono ?_; (repeat (first | with_reducible exact Below.refl _ _ | with_reducible assumption | with_reducible refine below_drewN0 ?_ _ | with_reducible refine Below.drew ?_ | with_reducible refine Below.alloc ?_ ?_ _ | with_reducible refine Below.setCell ?_ ?_ _ | go_size | exact Below.size (by assumption))); rintro e wx ⟨A6, c6, rfl, hc6, hrd6, hbx⟩; (first | (have hrd5' := (Reads.drewN0 hrd5 0).below (hbx.mono (by go_size)); clear hrd5) | skip); (have hcur' : Below V.heap.size V wx := Below.trans (by (repeat (first | with_reducible exact Below.refl _ _ | with_reducible assumption | with_reducible refine below_drewN0 ?_ _ | with_reducible refine Below.drew ?_ | with_reducible refine Below.alloc ?_ ?_ _ | with_reducible refine Below.setCell ?_ ?_ _ | go_size | exact Below.size (by assumption)))) (hbx.mono (by have := hcur.size; go_size)); clear hbx hcur; have hcur := hcur'; clear hcur')))
        | (go_at_call 37; go_loud (refine (HP _ _ _ _ _ hrd5' hrd6 hc5 hc6).mono ?_; rintro e wx ⟨rfl, hbx⟩; (have hcur' : Below V.heap.size V wx := Below.trans (by (repeat (first | with_reducible exact Below.refl _ _ | with_reducible assumption | with_reducible refine below_drewN0 ?_ _ | with_reducible refine Below.drew ?_ | with_reducible refine Below.alloc ?_ ?_ _ | with_reducible refine Below.setCell ?_ ?_ _ | go_size | exact Below.size (by assumption)))) (hbx.mono (by have := hcur.size; go_size)); clear hbx hcur; have hcur := hcur'; clear hcur')))
        | (go_at_call 40; go_loud (refine (HD _ _ _ (hrI.below ?_) hcI).mono ?_; (repeat (first | with_reducible exact Below.refl _ _ | with_reducible assumption | with_reducible refine below_drewN0 ?_ _ | with_reducible refine Below.drew ?_ | with_reducible refine Below.alloc ?_ ?_ _ | with_reducible refine Below.setCell ?_ ?_ _ | go_size | exact Below.size (by assumption))); rintro e wx ⟨rfl, hbx⟩; (have hcur' : Below V.heap.size V wx := Below.trans (by (repeat (first | with_reducible exact Below.refl _ _ | with_reducible assumption | with_reducible refine below_drewN0 ?_ _ | with_reducible refine Below.drew ?_ | with_reducible refine Below.alloc ?_ ?_ _ | with_reducible refine Below.setCell ?_ ?_ _ | go_size | exact Below.size (by assumption)))) (hbx.mono (by have := hcur.size; go_size)); clear hbx hcur; have hcur := hcur'; clear hcur')))
        | (go_at_call 30; go_loud (refine (HK _ _ (hrV.below ?_) ((hcur.block g hgl3).trans hG.out)).mono ?_; (repeat (first | with_reducible exact Below.refl _ _ | with_reducible assumption | with_reducible refine below_drewN0 ?_ _ | with_reducible refine Below.drew ?_ | with_reducible refine Below.alloc ?_ ?_ _ | with_reducible refine Below.setCell ?_ ?_ _ | go_size | exact Below.size (by assumption))); rintro e wx ⟨rfl, hbx⟩; (have hcur' : Below V.heap.size V wx := Below.trans (by (repeat (first | with_reducible exact Below.refl _ _ | with_reducible assumption | with_reducible refine below_drewN0 ?_ _ | with_reducible refine Below.drew ?_ | with_reducible refine Below.alloc ?_ ?_ _ | with_reducible refine Below.setCell ?_ ?_ _ | go_size | exact Below.size (by assumption)))) (hbx.mono (by have := hcur.size; go_size)); clear hbx hcur; have hcur := hcur'; clear hcur'))))
    go_wp2_with fail
    go_ret
    exact ⟨by simp, hbW.trans ((hbc.mono hbW.size).trans (hcur.mono (Nat.le_trans hbW.size hbc.size)))⟩

end Go.Proofs.Ytglhdoibglafbaa
