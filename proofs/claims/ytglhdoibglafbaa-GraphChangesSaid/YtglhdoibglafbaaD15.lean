/- The walk of the law GraphChanges. -/
import Derived.Test.YtglhdoibglafbaaA8
import Derived.Test.YtglhdoibglafbaaH1
import Derived.Test.YtglhdoibglafbaaD5
namespace Go.Proofs.Ytglhdoibglafbaa
open Go Go.RowKit
set_option maxRecDepth 100000
set_option linter.unusedVariables false

def chN (err n : Int) : Int := if err = 0 then n else 0
def chL (err : Int) (l : List (Int × Int)) : List (Int × Int) := if err = 0 then l else []
/-- A graph and why not, told. -/
def ChPost (n err : Int) (l : List (Int × Int)) (w : World) (e : Ending) (w' : World) : Prop :=
  ∃ (A : Option Addr) (c : Nat), e = .returned (.tuple #[.agg #[.int .i64 n, .slice A l.length c], .int .i64 err]) ∧ l.length ≤ c ∧ Reads w' A (pcells l) ∧ Below w.heap.size w w'
theorem AddPost.ch {n : Int} {es : List (Int × Int)} {a b : Int} {w w' : World} {e : Ending} (h : AddPost n es a b w e w') : ChPost (chN (addErr n es a b) n) (addErr n es a b) (chL (addErr n es a b) (putE es (min a b, max a b))) w e w' := by
  rcases h with ⟨h0, he, hb⟩ | ⟨h0, v, he, ho, hb⟩
  · rw [chN, chL, if_neg h0, if_neg h0]
    exact ⟨none, 0, he, Nat.le_refl _, .inl rfl, hb⟩
  · rw [h0, chN, chL, if_pos rfl, if_pos rfl]
    obtain ⟨A, c, rfl, hc, hr⟩ := own_reads0 ho
    exact ⟨A, c, by rw [putE_length]; exact he, by rw [putE_length]; exact hc, hr, hb⟩
theorem RemPost.ch {n : Int} {es : List (Int × Int)} {a b : Int} {w w' : World} {e : Ending} (h : RemPost n es a b w e w') : ChPost (chN (rmErr n es a b) n) (rmErr n es a b) (chL (rmErr n es a b) (rmL n es a b)) w e w' := by
  rcases h with ⟨h0, he, hb⟩ | ⟨h0, v, he, ho, hb⟩
  · rw [chN, chL, if_neg h0, if_neg h0]
    exact ⟨none, 0, he, Nat.le_refl _, .inl rfl, hb⟩
  · rw [h0, chN, chL, if_pos rfl, if_pos rfl]
    obtain ⟨A, c, rfl, hc, hr⟩ := own_reads0 ho
    exact ⟨A, c, he, hc, hr, hb⟩

theorem graph_eq (n : Int) (l : List (Int × Int)) (A1 A2 : Option Addr) (c1 c2 : Nat) (w : World) (h1 : Reads w A1 (pcells l)) (h2 : Reads w A2 (pcells l)) (hc1 : l.length ≤ c1) (hc2 : l.length ≤ c2) (hm : l.length ≤ 4611686018427387903) :
    Calls Try.prog 29 #[.agg #[.int .i64 n, .slice A1 l.length c1], .agg #[.int .i64 n, .slice A2 l.length c2]] w fun e w' => e = .returned (.bool true) ∧ Below w.heap.size w w' := by
  have HP := fun W h1 h2 => sameE_plain l l A1 A2 c1 c2 W h1 h2 hc1 hc2 hm hm
  simp only [decide_true] at HP
  go_enter Try.func29, Try.ntmps29
  go_wp2_with (go_at_call 51; refine (HP _ (h1.below ?_) (h2.below ?_)).mono ?_; (repeat (first | with_reducible exact Below.refl _ _ | with_reducible assumption | with_reducible refine below_drewN0 ?_ _ | with_reducible refine Below.drew ?_ | with_reducible refine Below.alloc ?_ ?_ _ | with_reducible refine Below.setCell ?_ ?_ _ | go_size | exact Below.size (by assumption))); (repeat (first | with_reducible exact Below.refl _ _ | with_reducible assumption | with_reducible refine below_drewN0 ?_ _ | with_reducible refine Below.drew ?_ | with_reducible refine Below.alloc ?_ ?_ _ | with_reducible refine Below.setCell ?_ ?_ _ | go_size | exact Below.size (by assumption))); rintro e w1 ⟨rfl, hb1⟩)
  go_ret
  exact ⟨by simp, Below.trans (by (repeat (first | with_reducible exact Below.refl _ _ | with_reducible assumption | with_reducible refine below_drewN0 ?_ _ | with_reducible refine Below.drew ?_ | with_reducible refine Below.alloc ?_ ?_ _ | with_reducible refine Below.setCell ?_ ?_ _ | go_size | exact Below.size (by assumption)))) (hb1.mono (by simp; omega))⟩


set_option maxHeartbeats 4000000 in
theorem changes_any (n a b : Int) (es : List (Int × Int)) (A : Option Addr) (c : Nat) (w : World) (hr : Reads w A (pcells es)) (hc : es.length ≤ c) (hm : es.length ≤ 4611686018427387903) :
    Calls Try.prog 12 #[.agg #[.int .i64 n, .slice A es.length c], .int .i64 a, .int .i64 b] w fun e w' => e = .returned (.bool true) ∧ Below w.heap.size w w' := by
  have HA := fun W => awake02 W
  by_cases h60 : 60 < es.length
  · have h60' : decide ((60 : Int) < (es.length : Int)) = true := decide_eq_true (by omega)
    go_enter Try.func12, Try.ntmps12
    go_wp2_with (first | (go_at_call 25; refine (HA _).mono ?_; rintro e w1 ⟨rfl, hb1⟩))
    go_ret
    exact ⟨rfl, Below.trans (by (repeat (first | with_reducible exact Below.refl _ _ | with_reducible assumption | with_reducible refine below_drewN0 ?_ _ | with_reducible refine Below.drew ?_ | with_reducible refine Below.alloc ?_ ?_ _ | with_reducible refine Below.setCell ?_ ?_ _ | go_size | exact Below.size (by assumption)))) (hb1.mono (by simp))⟩
  have h60' : decide ((60 : Int) < (es.length : Int)) = false := decide_eq_false (by omega)
  have H1 := fun W hR => (add_any n a b es A c W hR hc hm).mono fun e w' h => h.ch
  have H2 := fun W hR => (refAdd n a b es A c W hR hc hm).mono fun e w' h => h.ch
  have H3 := fun W hR => (remove_any n a b es A c W hR hc hm).mono fun e w' h => h.ch
  have H4 := fun W hR => (refRemove n a b es A c W hR hc (by omega)).mono fun e w' h => h.ch
  have hl1 : (chL (addErr n es a b) (putE es (min a b, max a b))).length ≤ 61 := by
    unfold chL
    split
    · rw [putE_length]; omega
    · simp
  have hl2 : (chL (rmErr n es a b) (rmL n es a b)).length ≤ 121 := by
    unfold chL
    split
    · unfold rmL; rw [List.length_append, List.length_take, List.length_drop]; omega
    · simp
  generalize chL (addErr n es a b) (putE es (min a b, max a b)) = L1 at H1 H2 hl1
  generalize chL (rmErr n es a b) (rmL n es a b) = L2 at H3 H4 hl2
  generalize chN (addErr n es a b) n = N1 at H1 H2
  generalize chN (rmErr n es a b) n = N2 at H3 H4
  generalize addErr n es a b = E1 at H1 H2
  generalize rmErr n es a b = E2 at H3 H4
  have HQ1 := fun A1 A2 c1 c2 W h1 h2 hc1 hc2 => graph_eq N1 L1 A1 A2 c1 c2 W h1 h2 hc1 hc2 (by omega)
  have HQ2 := fun A1 A2 c1 c2 W h1 h2 hc1 hc2 => graph_eq N2 L2 A1 A2 c1 c2 W h1 h2 hc1 hc2 (by omega)
  go_enter Try.func12, Try.ntmps12
  go_upto_region 3 with fail
  have hg0 := blk2 (heap_alloc_new w (Obj.cells #[Value.int .i64 n, Value.slice A es.length c] 25))
  generalize hW : w.alloc (Obj.cells #[Value.int .i64 n, Value.slice A es.length c] 25) = V at *
  have hbW : Below w.heap.size w V := by rw [← hW]; (repeat (first | with_reducible exact Below.refl _ _ | with_reducible assumption | with_reducible refine below_drewN0 ?_ _ | with_reducible refine Below.drew ?_ | with_reducible refine Below.alloc ?_ ?_ _ | with_reducible refine Below.setCell ?_ ?_ _ | go_size | exact Below.size (by assumption)))
  have hrV := hr.below hbW
  have hgl := hg0.2.2.2.2
  have HS := Lib.hid (fun (w' : World) (h : Below V.heap.size V w') => (⟨(h.cell (p := ⟨w.heap.size, 0, none⟩) hg0.2.2.2.2).trans hg0.1, (h.cell (p := ⟨w.heap.size, 1, none⟩) hg0.2.2.2.2).trans hg0.2.1⟩ : w'.cell? ⟨w.heap.size, 0, none⟩ = some (.int .i64 n) ∧ w'.cell? ⟨w.heap.size, 1, none⟩ = some (.slice A es.length c)))
  clear hW hr hg0
  obtain ⟨v0, v1⟩ := HS.out V (Below.refl _ _)
  go_upto_region 4 with (go_at_call 57; go_loud (refine (H1 _ (hrV.below ?_)).mono ?_; (repeat (first | with_reducible exact Below.refl _ _ | with_reducible assumption | with_reducible refine below_drewN0 ?_ _ | with_reducible refine Below.drew ?_ | with_reducible refine Below.alloc ?_ ?_ _ | with_reducible refine Below.setCell ?_ ?_ _ | go_size | exact Below.size (by assumption))); rintro e w1 ⟨A1, c1, rfl, hc1, hrd1, hb1⟩; have hcur1 : Below V.heap.size V w1 := hb1; obtain ⟨v0, v1⟩ := HS.out _ hcur1))
  (have hGa := heap_alloc_new w1 (Obj.cells #[Value.int .i64 N1, Value.slice A1 (L1).length c1] 25)
   have hVa : Below V.heap.size V (w1.alloc (Obj.cells #[Value.int .i64 N1, Value.slice A1 (L1).length c1] 25)) := by (repeat (first | with_reducible exact Below.refl _ _ | with_reducible assumption | with_reducible refine below_drewN0 ?_ _ | with_reducible refine Below.drew ?_ | with_reducible refine Below.alloc ?_ ?_ _ | with_reducible refine Below.setCell ?_ ?_ _ | go_size | exact Below.size (by assumption)))
   have hPa : Below (V).heap.size V (w1.alloc (Obj.cells #[Value.int .i64 N1, Value.slice A1 (L1).length c1] 25)) := Below.alloc hb1 hb1.size _
   have hRa := hrd1.below (w1 := w1.alloc (Obj.cells #[Value.int .i64 N1, Value.slice A1 (L1).length c1] 25)) (by (repeat (first | with_reducible exact Below.refl _ _ | with_reducible assumption | with_reducible refine below_drewN0 ?_ _ | with_reducible refine Below.drew ?_ | with_reducible refine Below.alloc ?_ ?_ _ | with_reducible refine Below.setCell ?_ ?_ _ | go_size | exact Below.size (by assumption))))
   generalize hV1 : w1.alloc (Obj.cells #[Value.int .i64 N1, Value.slice A1 (L1).length c1] 25) = V1 at *
   have HG1 := Lib.hid hGa
   have HV1 := Lib.hid hVa
   have HP1 := Lib.hid hPa
   have HR1 := Lib.hid hRa
   clear hGa hVa hPa hRa hV1 hrd1 hcur1
   obtain ⟨v0, v1⟩ := HS.out _ HV1.out)
  go_upto_region 5 with (go_at_call 58; go_loud (refine (H2 _ (hrV.below HV1.out)).mono ?_; rintro e w2 ⟨A2, c2, rfl, hc2, hrd2, hb2⟩; have hcur2 : Below V.heap.size V w2 := HV1.out.trans (hb2.mono HV1.out.size); obtain ⟨v0, v1⟩ := HS.out _ hcur2))
  (have hGa := heap_alloc_new w2 (Obj.cells #[Value.int .i64 N1, Value.slice A2 (L1).length c2] 25)
   have hVa : Below V.heap.size V (w2.alloc (Obj.cells #[Value.int .i64 N1, Value.slice A2 (L1).length c2] 25)) := by (repeat (first | with_reducible exact Below.refl _ _ | with_reducible assumption | with_reducible refine below_drewN0 ?_ _ | with_reducible refine Below.drew ?_ | with_reducible refine Below.alloc ?_ ?_ _ | with_reducible refine Below.setCell ?_ ?_ _ | go_size | exact Below.size (by assumption)))
   have hPa : Below (V1).heap.size V1 (w2.alloc (Obj.cells #[Value.int .i64 N1, Value.slice A2 (L1).length c2] 25)) := Below.alloc hb2 hb2.size _
   have hRa := hrd2.below (w1 := w2.alloc (Obj.cells #[Value.int .i64 N1, Value.slice A2 (L1).length c2] 25)) (by (repeat (first | with_reducible exact Below.refl _ _ | with_reducible assumption | with_reducible refine below_drewN0 ?_ _ | with_reducible refine Below.drew ?_ | with_reducible refine Below.alloc ?_ ?_ _ | with_reducible refine Below.setCell ?_ ?_ _ | go_size | exact Below.size (by assumption))))
   generalize hV2 : w2.alloc (Obj.cells #[Value.int .i64 N1, Value.slice A2 (L1).length c2] 25) = V2 at *
   have HG2 := Lib.hid hGa
   have HV2 := Lib.hid hVa
   have HP2 := Lib.hid hPa
   have HR2 := Lib.hid hRa
   clear hGa hVa hPa hRa hV2 hrd2 hcur2
   obtain ⟨v0, v1⟩ := HS.out _ HV2.out)
  go_upto_region 6 with (go_at_call 59; go_loud (refine (H3 _ (hrV.below HV2.out)).mono ?_; rintro e w3 ⟨A3, c3, rfl, hc3, hrd3, hb3⟩; have hcur3 : Below V.heap.size V w3 := HV2.out.trans (hb3.mono HV2.out.size); obtain ⟨v0, v1⟩ := HS.out _ hcur3))
  (have hGa := heap_alloc_new w3 (Obj.cells #[Value.int .i64 N2, Value.slice A3 (L2).length c3] 25)
   have hVa : Below V.heap.size V (w3.alloc (Obj.cells #[Value.int .i64 N2, Value.slice A3 (L2).length c3] 25)) := by (repeat (first | with_reducible exact Below.refl _ _ | with_reducible assumption | with_reducible refine below_drewN0 ?_ _ | with_reducible refine Below.drew ?_ | with_reducible refine Below.alloc ?_ ?_ _ | with_reducible refine Below.setCell ?_ ?_ _ | go_size | exact Below.size (by assumption)))
   have hPa : Below (V2).heap.size V2 (w3.alloc (Obj.cells #[Value.int .i64 N2, Value.slice A3 (L2).length c3] 25)) := Below.alloc hb3 hb3.size _
   have hRa := hrd3.below (w1 := w3.alloc (Obj.cells #[Value.int .i64 N2, Value.slice A3 (L2).length c3] 25)) (by (repeat (first | with_reducible exact Below.refl _ _ | with_reducible assumption | with_reducible refine below_drewN0 ?_ _ | with_reducible refine Below.drew ?_ | with_reducible refine Below.alloc ?_ ?_ _ | with_reducible refine Below.setCell ?_ ?_ _ | go_size | exact Below.size (by assumption))))
   generalize hV3 : w3.alloc (Obj.cells #[Value.int .i64 N2, Value.slice A3 (L2).length c3] 25) = V3 at *
   have HG3 := Lib.hid hGa
   have HV3 := Lib.hid hVa
   have HP3 := Lib.hid hPa
   have HR3 := Lib.hid hRa
   clear hGa hVa hPa hRa hV3 hrd3 hcur3
   obtain ⟨v0, v1⟩ := HS.out _ HV3.out)
  go_upto_region 7 with (go_at_call 60; go_loud (refine (H4 _ (hrV.below HV3.out)).mono ?_; rintro e w4 ⟨A4, c4, rfl, hc4, hrd4, hb4⟩; have hcur4 : Below V.heap.size V w4 := HV3.out.trans (hb4.mono HV3.out.size); obtain ⟨v0, v1⟩ := HS.out _ hcur4))
  (have hGa := heap_alloc_new w4 (Obj.cells #[Value.int .i64 N2, Value.slice A4 (L2).length c4] 25)
   have hVa : Below V.heap.size V (w4.alloc (Obj.cells #[Value.int .i64 N2, Value.slice A4 (L2).length c4] 25)) := by (repeat (first | with_reducible exact Below.refl _ _ | with_reducible assumption | with_reducible refine below_drewN0 ?_ _ | with_reducible refine Below.drew ?_ | with_reducible refine Below.alloc ?_ ?_ _ | with_reducible refine Below.setCell ?_ ?_ _ | go_size | exact Below.size (by assumption)))
   have hPa : Below (V3).heap.size V3 (w4.alloc (Obj.cells #[Value.int .i64 N2, Value.slice A4 (L2).length c4] 25)) := Below.alloc hb4 hb4.size _
   have hRa := hrd4.below (w1 := w4.alloc (Obj.cells #[Value.int .i64 N2, Value.slice A4 (L2).length c4] 25)) (by (repeat (first | with_reducible exact Below.refl _ _ | with_reducible assumption | with_reducible refine below_drewN0 ?_ _ | with_reducible refine Below.drew ?_ | with_reducible refine Below.alloc ?_ ?_ _ | with_reducible refine Below.setCell ?_ ?_ _ | go_size | exact Below.size (by assumption))))
   generalize hV4 : w4.alloc (Obj.cells #[Value.int .i64 N2, Value.slice A4 (L2).length c4] 25) = V4 at *
   have HG4 := Lib.hid hGa
   have HV4 := Lib.hid hVa
   have HP4 := Lib.hid hPa
   have HR4 := Lib.hid hRa
   clear hGa hVa hPa hRa hV4 hrd4 hcur4
   obtain ⟨v0, v1⟩ := HS.out _ HV4.out)
  clear v0 v1
  have hP34 := HP4.out
  have hP24 := HP3.out.trans (hP34.mono HP3.out.size)
  have hP14 := HP2.out.trans (hP24.mono HP2.out.size)
  have hR1 := HR1.out.below hP14
  have hR2 := HR2.out.below hP24
  have hR3 := HR3.out.below hP34
  have hR4 := HR4.out
  have hG1 := Lib.hid ((hP14.block _ (heap_lt0 HG1.out)).trans HG1.out)
  have hG2 := Lib.hid ((hP24.block _ (heap_lt0 HG2.out)).trans HG2.out)
  have hG3 := Lib.hid ((hP34.block _ (heap_lt0 HG3.out)).trans HG3.out)
  have HC := Lib.hid (fun (w' : World) (h : Below V4.heap.size V4 w') => (⟨blk2 ((h.block _ (heap_lt0 hG1.out)).trans hG1.out), blk2 ((h.block _ (heap_lt0 hG2.out)).trans hG2.out), blk2 ((h.block _ (heap_lt0 hG3.out)).trans hG3.out), blk2 ((h.block _ (heap_lt0 HG4.out)).trans HG4.out)⟩ : (_ ∧ _) ∧ (_ ∧ _) ∧ (_ ∧ _) ∧ (_ ∧ _)))
  have hend := hbW.trans (HV4.out.mono hbW.size)
  have hs4 := HV4.out.size
  clear hP14 hP24 hP34 hb1 hb2 hb3 hb4
  go_wp2_with (first
    | (go_at_call 25; go_loud ((refine (HA _).mono ?_; rintro e w5 ⟨rfl, hb5⟩; obtain ⟨⟨x0, x1, _⟩, ⟨y0, y1, _⟩, ⟨z0, z1, _⟩, ⟨u0, u1, _⟩⟩ := HC.out _ hb5)))
    | (go_at_call 29; go_loud (refine (HQ1 _ _ _ _ _ (hR1.below hb5) (hR2.below hb5) hc1 hc2).mono ?_; rintro e w6 ⟨rfl, hb6'⟩; have hb6 := hb5.trans (hb6'.mono hb5.size); clear x0 x1 y0 y1 z0 z1 u0 u1 hb5; obtain ⟨⟨x0, x1, _⟩, ⟨y0, y1, _⟩, ⟨z0, z1, _⟩, ⟨u0, u1, _⟩⟩ := HC.out _ hb6))
    | (go_at_call 29; go_loud (refine (HQ2 _ _ _ _ _ (hR3.below hb6) (hR4.below hb6) hc3 hc4).mono ?_; rintro e w7 ⟨rfl, hb7'⟩; have hb7 := hb6.trans (hb7'.mono hb6.size))))
  go_ret
  exact ⟨by simp, hend.trans (hb7.mono (by have := hbW.size; omega))⟩

end Go.Proofs.Ytglhdoibglafbaa
