/- The walk of the law GraphDegrees. -/
import Derived.Test.YtglhdoibglafbaaD10
import Derived.Test.YtglhdoibglafbaaD5
import Derived.Test.YtglhdoibglafbaaA6
import Derived.Test.YtglhdoibglafbaaH3
import Derived.Test.YtglhdoibglafbaaGP
namespace Go.Proofs.Ytglhdoibglafbaa
open Go Go.RowKit
set_option maxRecDepth 100000
set_option linter.unusedVariables false


set_option maxHeartbeats 8000000 in
theorem degrees_any (n0 : Int) (ends : List Int) (Ae : Option Addr) (ce : Nat) (w : World) (hn1 : -9223372036854775808 ≤ n0) (hn2 : n0 ≤ 9223372036854775807)
    (hr : Reads w Ae (icells ends)) (hc : ends.length ≤ ce) (hm : ends.length ≤ 4611686018427387903) :
    Calls Try.prog 7 #[.int .i64 n0, .slice Ae ends.length ce] w fun e w' => e = .returned (.bool true) ∧ Below w.heap.size w w' := by
  have HA := fun W => awake02 W
  have HSm := fun W hR => small_any n0 30 60 ends Ae ce W (by omega) (by omega) (by omega) (by omega) hn1 hn2 hR hc hm
  go_enter Try.func7, Try.ntmps7
  go_upto_region 2 with (first
    | (go_at_call 41; refine (HSm _ hr).mono ?_
       rintro e w1 ⟨n, es, A, c, rfl, hP, hn, hel, hec, hrd, hb1⟩))
  have hB0 := heap_alloc_new w1 (Obj.cells #[Value.int .i64 n, Value.slice A es.length c] 25)
  have hV : Below w1.heap.size w1 (w1.alloc (Obj.cells #[Value.int .i64 n, Value.slice A es.length c] 25)) := by (repeat (first | with_reducible exact Below.refl _ _ | with_reducible assumption | with_reducible refine below_drewN0 ?_ _ | with_reducible refine Below.drew ?_ | with_reducible refine Below.alloc ?_ ?_ _ | with_reducible refine Below.setCell ?_ ?_ _ | go_size | exact Below.size (by assumption)))
  generalize w1.alloc (Obj.cells #[Value.int .i64 n, Value.slice A es.length c] 25) = V at hB0 hV ⊢
  have hrV := hrd.below hV
  obtain ⟨N, rfl⟩ : ∃ m : Nat, n = m := ⟨n.toNat, by have := hP.n0; omega⟩
  have hR := (right_iff _ _).2 hP
  have HRt := fun W hR => right_any N es A c W hR hec (by omega)
  rw [hR] at HRt
  have HN := fun v W hr => near_any N v es A c W hr hec (by omega)
  have HD := fun v W hr => degree_any N v es A c W hr hec (by omega)
  have HI := fun a b W hr => index_any N a b es A c W hr hec (by omega)
  simp only [nearB_right hR] at HN HD
  have HP := Lib.hid hP
  have HG := Lib.hid hB0
  obtain ⟨v0, v1, _, _, hgl⟩ := blk2 hB0
  have HSV := Lib.hid (fun (w' : World) (h : Below V.heap.size V w') => (⟨(h.cell (p := ⟨w1.heap.size, 0, none⟩) hgl).trans v0, (h.cell (p := ⟨w1.heap.size, 1, none⟩) hgl).trans v1⟩ : w'.cell? ⟨w1.heap.size, 0, none⟩ = some (.int .i64 N) ∧ w'.cell? ⟨w1.heap.size, 1, none⟩ = some (.slice A es.length c)))
  have hcur : Below V.heap.size V V := Below.refl _ _
  have hel' : es.length ≤ 60 := by omega
  have hn' : N ≤ 30 := by omega
  clear hB0 hP hR hrd hr HSm hn hel
  go_upto_region 4 with (first
    | (go_at_call 25; go_loud ((refine (HA _).mono ?_; rintro e wx ⟨rfl, hbx⟩; (have hcur' : Below V.heap.size V wx := Below.trans (by (repeat (first | with_reducible exact Below.refl _ _ | with_reducible assumption | with_reducible refine below_drewN0 ?_ _ | with_reducible refine Below.drew ?_ | with_reducible refine Below.alloc ?_ ?_ _ | with_reducible refine Below.setCell ?_ ?_ _ | go_size | exact Below.size (by assumption)))) (hbx.mono (by have := hcur.size; go_size)); clear hbx hcur; have hcur := hcur'; clear hcur'); obtain ⟨v0, v1⟩ := HSV.out _ hcur)))
    | (go_at_call 31; go_loud (refine (HRt _ (hrV.below ?_)).mono ?_; (repeat (first | with_reducible exact Below.refl _ _ | with_reducible assumption | with_reducible refine below_drewN0 ?_ _ | with_reducible refine Below.drew ?_ | with_reducible refine Below.alloc ?_ ?_ _ | with_reducible refine Below.setCell ?_ ?_ _ | go_size | exact Below.size (by assumption))); rintro e wx ⟨rfl, hbx⟩; (have hcur' : Below V.heap.size V wx := Below.trans (by (repeat (first | with_reducible exact Below.refl _ _ | with_reducible assumption | with_reducible refine below_drewN0 ?_ _ | with_reducible refine Below.drew ?_ | with_reducible refine Below.alloc ?_ ?_ _ | with_reducible refine Below.setCell ?_ ?_ _ | go_size | exact Below.size (by assumption)))) (hbx.mono (by have := hcur.size; go_size)); clear hbx hcur; have hcur := hcur'; clear hcur'))))
  go_wp2_with fail
  go_loopw [6, 7] (fun s i wr => ∃ k : Nat, k ≤ N ∧ i = .int .i64 k ∧ s = .int .i64 (degSum es k) ∧ Below V.heap.size V wr) (fun _ i _ => N - (intOf i).toNat)
  case atStart => exact ⟨0, Nat.zero_le _, rfl, rfl, hcur⟩
  case round =>
    clear hcur v0 v1
    obtain ⟨k, hk, rfl, rfl, hcur⟩ := hrel
    have hsum := degSum_le es k
    have hsum2 := degSum_le es (k + 1)
    have hkk : k * (es.length + es.length) ≤ 30 * 120 := Nat.mul_le_mul (by omega) (by omega)
    obtain ⟨v0, v1⟩ := HSV.out _ hcur
    have hgw : w1.heap.size < wr.heap.size := Nat.lt_of_lt_of_le hgl hcur.size
    by_cases hlt : k < N
    · have HNk := HN k
      have HDk := HD k
      have HRi := Lib.hid (nearL_rises HP.out (k : Int))
      have HSy := Lib.hid (fun x (hx : x ∈ nearL es (k : Int)) => nearL_symm hx)
      have hds : degSum es (k + 1) = degSum es k + (nearL es (k : Int)).length := rfl
      have hll := nearL_length es (k : Int)
      generalize nearL es (k : Int) = l at *
      have HDS := Lib.hid hds
      clear hds hsum2
      go_upto_region 12 with (first
        | (go_at_call 38; go_loud (refine (HNk _ (hrV.below ?_)).mono ?_; (repeat (first | with_reducible exact Below.refl _ _ | with_reducible assumption | with_reducible refine below_drewN0 ?_ _ | with_reducible refine Below.drew ?_ | with_reducible refine Below.alloc ?_ ?_ _ | with_reducible refine Below.setCell ?_ ?_ _ | go_size | exact Below.size (by assumption))); rintro e w5 ⟨A5, c5, rfl, hc5, hrd5, hbx⟩; (have hcur' : Below V.heap.size V w5 := Below.trans (by (repeat (first | with_reducible exact Below.refl _ _ | with_reducible assumption | with_reducible refine below_drewN0 ?_ _ | with_reducible refine Below.drew ?_ | with_reducible refine Below.alloc ?_ ?_ _ | with_reducible refine Below.setCell ?_ ?_ _ | go_size | exact Below.size (by assumption)))) (hbx.mono (by have := hcur.size; go_size)); clear hbx hcur; have hcur := hcur'; clear hcur'); obtain ⟨v0, v1⟩ := HSV.out _ hcur))
        | (go_at_call 40; go_loud (refine (HDk _ (hrV.below ?_)).mono ?_; (repeat (first | with_reducible exact Below.refl _ _ | with_reducible assumption | with_reducible refine below_drewN0 ?_ _ | with_reducible refine Below.drew ?_ | with_reducible refine Below.alloc ?_ ?_ _ | with_reducible refine Below.setCell ?_ ?_ _ | go_size | exact Below.size (by assumption))); rintro e wx ⟨rfl, hbx⟩; have hrd5' := (Reads.drewN0 hrd5 0).below (hbx.mono (by go_size)); clear hrd5; have hrd5 := hrd5'; clear hrd5'; (have hcur' : Below V.heap.size V wx := Below.trans (by (repeat (first | with_reducible exact Below.refl _ _ | with_reducible assumption | with_reducible refine below_drewN0 ?_ _ | with_reducible refine Below.drew ?_ | with_reducible refine Below.alloc ?_ ?_ _ | with_reducible refine Below.setCell ?_ ?_ _ | go_size | exact Below.size (by assumption)))) (hbx.mono (by have := hcur.size; go_size)); clear hbx hcur; have hcur := hcur'; clear hcur'); obtain ⟨v0, v1⟩ := HSV.out _ hcur))
        | (go_at_call 42; go_loud (refine (rises_true l A5 c5 _ hrd5 hc5 (by omega) HRi.out).mono ?_; rintro e wx ⟨rfl, hbx⟩; have hrd5' := (Reads.drewN0 hrd5 0).below (hbx.mono (by go_size)); clear hrd5; have hrd5 := hrd5'; clear hrd5'; (have hcur' : Below V.heap.size V wx := Below.trans (by (repeat (first | with_reducible exact Below.refl _ _ | with_reducible assumption | with_reducible refine below_drewN0 ?_ _ | with_reducible refine Below.drew ?_ | with_reducible refine Below.alloc ?_ ?_ _ | with_reducible refine Below.setCell ?_ ?_ _ | go_size | exact Below.size (by assumption)))) (hbx.mono (by have := hcur.size; go_size)); clear hbx hcur; have hcur := hcur'; clear hcur'))))
      obtain ⟨wo, rfl⟩ : ∃ wo : World, wo = wx := ⟨_, rfl⟩
      have HCO := Lib.hid hcur
      clear v0 v1 hcur
      go_wp2_with fail
      go_loopw [9] (fun i wr => ∃ j : Nat, j ≤ l.length ∧ i = .int .i64 j ∧ Below wo.heap.size wo wr) (fun i _ => l.length - (intOf i).toNat)
      case atStart => exact ⟨0, Nat.zero_le _, rfl, Below.refl _ _⟩
      case round =>
        obtain ⟨j, hj, rfl, hbo⟩ := hrel
        have hcur : Below V.heap.size V wr := HCO.out.trans (hbo.mono HCO.out.size)
        have hos := hbo.size
        by_cases hjl : j < l.length
        · obtain ⟨x, hx⟩ : ∃ x, l[j]? = some x := ⟨l[j], by simp [hjl]⟩
          obtain ⟨b5, o5, rfl, hb5, e5⟩ := (hrd5.below hbo).int j x hx
          have hmx := HSy.out x (List.mem_of_getElem? hx)
          have HNx := HN x
          have hlx := nearL_length es x
          have HIx := fun A c W hr hc => inI (nearL es x) k A c W hr hc (by omega)
          rw [decide_eq_true hmx] at HIx
          generalize nearL es x = l2 at *
          clear hx hmx
          obtain ⟨v0, v1⟩ := HSV.out _ hcur
          have HS2 := Lib.hid (fun (w' : World) (h : Below wr.heap.size wr w') => (⟨(h.cell (p := ⟨w1.heap.size, 0, none⟩) (by have := HCO.out.size; dsimp only; omega)).trans v0, (h.cell (p := ⟨w1.heap.size, 1, none⟩) (by have := HCO.out.size; dsimp only; omega)).trans v1, (h.cell (p := ⟨b5, o5 + j, none⟩) hb5).trans e5⟩ : w'.cell? ⟨w1.heap.size, 0, none⟩ = some (.int .i64 N) ∧ w'.cell? ⟨w1.heap.size, 1, none⟩ = some (.slice A es.length c) ∧ w'.cell? ⟨b5, o5 + j, none⟩ = some (.int .i64 x)))
          have jI : (j : Int) < (l.length : Int) := by omega
          have hrW := hrV.below hcur
          go_wp2_with fail
          go_region_held3 (fun w' => w'.cell? ⟨w1.heap.size, 0, none⟩ = some (.int .i64 N) ∧ w'.cell? ⟨w1.heap.size, 1, none⟩ = some (.slice A es.length c) ∧ w'.cell? ⟨b5, o5 + j, none⟩ = some (.int .i64 x)) (first | exact HS2.out _ hb6 | (refine HS2.out _ ?_; (repeat (first | with_reducible exact Below.refl _ _ | with_reducible assumption | with_reducible refine below_drewN0 ?_ _ | with_reducible refine Below.drew ?_ | with_reducible refine Below.alloc ?_ ?_ _ | with_reducible refine Below.setCell ?_ ?_ _ | go_size | exact Below.size (by assumption))); done))
            (first
              | (go_at_call 38; go_loud (refine (HNx _ (hrW.below ?_)).mono ?_; (repeat (first | with_reducible exact Below.refl _ _ | with_reducible assumption | with_reducible refine below_drewN0 ?_ _ | with_reducible refine Below.drew ?_ | with_reducible refine Below.alloc ?_ ?_ _ | with_reducible refine Below.setCell ?_ ?_ _ | go_size | exact Below.size (by assumption))); rintro e w6 ⟨A6, c6, rfl, hc6, hrd6, hbx⟩; have hb6 : Below wr.heap.size wr w6 := Below.trans (by (repeat (first | with_reducible exact Below.refl _ _ | with_reducible assumption | with_reducible refine below_drewN0 ?_ _ | with_reducible refine Below.drew ?_ | with_reducible refine Below.alloc ?_ ?_ _ | with_reducible refine Below.setCell ?_ ?_ _ | go_size | exact Below.size (by assumption)))) (hbx.mono (by go_size))))
              | (go_at_call 43; go_loud (refine (HIx A6 c6 _ ?_ hc6).mono ?_; (first | exact hrd6 | exact hrd6.drew0 | exact hrd6.drewN0 _); rintro e w7 ⟨rfl, rfl⟩)))
          all_goals
            go_wp2_with fail
            go_roundw
            case rel => exact ⟨j + 1, by omega, by go_num, hbo.trans (Below.mono (B := wr.heap.size) (by (repeat (first | with_reducible exact Below.refl _ _ | with_reducible assumption | with_reducible refine below_drewN0 ?_ _ | with_reducible refine Below.drew ?_ | with_reducible refine Below.alloc ?_ ?_ _ | with_reducible refine Below.setCell ?_ ?_ _ | go_size | exact Below.size (by assumption)))) hos)⟩
            case measure => simp [intOf]; omega
        · go_wp2_with fail
          go_roundw
          case rel => exact ⟨k + 1, by omega, by go_num, by rw [HDS.out]; go_num, hcur⟩
          case measure => simp [intOf]; omega
    · obtain rfl : k = N := by omega
      have hP := HP.out
      have htot := degSum_all es k (fun e he => by have := hP.ok e he; omega)
      have hpos : (2 : Int) * (es.length : Int) = (degSum es k : Int) := by omega
      generalize degSum es k = S at *
      have HPos := Lib.hid hpos
      clear hpos hP htot hsum hsum2
      go_wp2_with fail
      go_loopw [10] (fun i wr => ∃ j : Nat, j ≤ es.length ∧ i = .int .i64 j ∧ Below V.heap.size V wr) (fun i _ => es.length - (intOf i).toNat)
      case atStart => exact ⟨0, Nat.zero_le _, rfl, hcur⟩
      case round =>
        clear hcur v0 v1 hgw
        obtain ⟨j, hj, rfl, hcur⟩ := hrel
        obtain ⟨v0, v1⟩ := HSV.out _ hcur
        have hgw : w1.heap.size < wr.heap.size := Nat.lt_of_lt_of_le hgl hcur.size
        by_cases hjl : j < es.length
        · obtain ⟨⟨x, y⟩, hxy⟩ : ∃ e, es[j]? = some e := ⟨es[j], by simp [hjl]⟩
          obtain ⟨b, o, rfl, hbl, e1, e2⟩ := (hrV.below hcur).pair' j _ hxy
          have HIx := HI y x
          rw [index_at HP.out j x y hxy] at HIx
          clear hxy
          have jI : (j : Int) < (es.length : Int) := by omega
          have hrW := hrV.below hcur
          have HS2 := Lib.hid (fun (w' : World) (h : Below wr.heap.size wr w') => (⟨(h.cell (p := ⟨w1.heap.size, 0, none⟩) hgw).trans v0, (h.cell (p := ⟨w1.heap.size, 1, none⟩) hgw).trans v1, (h.cell (p := ⟨b, o + j * 2, none⟩) hbl).trans e1, (h.cell (p := ⟨b, o + j * 2 + 1, none⟩) hbl).trans e2⟩ : w'.cell? ⟨w1.heap.size, 0, none⟩ = some (.int .i64 k) ∧ w'.cell? ⟨w1.heap.size, 1, none⟩ = some (.slice (some ⟨b, o, none⟩) es.length c) ∧ w'.cell? ⟨b, o + j * 2, none⟩ = some (.int .i64 x) ∧ w'.cell? ⟨b, o + j * 2 + 1, none⟩ = some (.int .i64 y)))
          go_wp2_with fail
          go_region_held3 (fun w' => w'.cell? ⟨w1.heap.size, 0, none⟩ = some (.int .i64 k) ∧ w'.cell? ⟨w1.heap.size, 1, none⟩ = some (.slice (some ⟨b, o, none⟩) es.length c) ∧ w'.cell? ⟨b, o + j * 2, none⟩ = some (.int .i64 x) ∧ w'.cell? ⟨b, o + j * 2 + 1, none⟩ = some (.int .i64 y)) (first | exact HS2.out _ hb6 | (refine HS2.out _ ?_; (repeat (first | with_reducible exact Below.refl _ _ | with_reducible assumption | with_reducible refine below_drewN0 ?_ _ | with_reducible refine Below.drew ?_ | with_reducible refine Below.alloc ?_ ?_ _ | with_reducible refine Below.setCell ?_ ?_ _ | go_size | exact Below.size (by assumption))); done))
            (first | (go_at_call 35; go_loud (refine (HIx _ (hrW.below ?_)).mono ?_; (repeat (first | with_reducible exact Below.refl _ _ | with_reducible assumption | with_reducible refine below_drewN0 ?_ _ | with_reducible refine Below.drew ?_ | with_reducible refine Below.alloc ?_ ?_ _ | with_reducible refine Below.setCell ?_ ?_ _ | go_size | exact Below.size (by assumption))); rintro e w6 ⟨rfl, hbx⟩; have hb6 : Below wr.heap.size wr w6 := Below.trans (by (repeat (first | with_reducible exact Below.refl _ _ | with_reducible assumption | with_reducible refine below_drewN0 ?_ _ | with_reducible refine Below.drew ?_ | with_reducible refine Below.alloc ?_ ?_ _ | with_reducible refine Below.setCell ?_ ?_ _ | go_size | exact Below.size (by assumption)))) (hbx.mono (by go_size)))))
          all_goals
            go_wp2_with fail
            go_roundw
            case rel => exact ⟨j + 1, by omega, by go_num, hcur.trans (Below.mono (B := wr.heap.size) (by (repeat (first | with_reducible exact Below.refl _ _ | with_reducible assumption | with_reducible refine below_drewN0 ?_ _ | with_reducible refine Below.drew ?_ | with_reducible refine Below.alloc ?_ ?_ _ | with_reducible refine Below.setCell ?_ ?_ _ | go_size | exact Below.size (by assumption)))) hcur.size)⟩
            case measure => simp [intOf]; omega
        · obtain rfl : j = es.length := by omega
          have hq : ((S : Int) == 2 * (es.length : Int)) = true := by have := HPos.out; simp; omega
          go_wp2_with fail
          go_ret
          exact ⟨by first | rfl | simpa using hq, hb1.trans ((hV.mono hb1.size).trans (hcur.mono (Nat.le_trans hb1.size hV.size)))⟩

end Go.Proofs.Ytglhdoibglafbaa
