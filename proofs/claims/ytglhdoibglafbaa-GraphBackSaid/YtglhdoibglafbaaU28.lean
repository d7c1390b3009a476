/- GraphMakes, walked. -/
import Derived.Test.YtglhdoibglafbaaU27
import Derived.Test.YtglhdoibglafbaaU05
import Derived.Test.YtglhdoibglafbaaU14
namespace Go.Proofs.Ytglhdoibglafbaa
open Go Go.RowKit
set_option maxRecDepth 100000
set_option linter.unusedVariables false
set_option linter.unusedSimpArgs false


set_option maxHeartbeats 4000000 in
theorem makes_any (n : Int) (l : List (Int × Int)) (A : Option Addr) (c : Nat) (w : World) (hr : Reads w A (pcells l)) (hc : l.length ≤ c) (hm : l.length ≤ 4611686018427387903) :
    Calls Try.prog 5 #[.int .i64 n, .slice A l.length c] w fun e w' => e = .returned (.bool true) ∧ Below w.heap.size w w' := by
  have HA := fun W => awake02 W
  by_cases h60 : 60 < l.length
  · have h60' : decide ((60 : Int) < (l.length : Int)) = true := decide_eq_true (by omega)
    go_enter Try.func5, Try.ntmps5
    go_wp2_with (first | (go_at_call 25; refine (HA _).mono ?_; rintro e w1 ⟨rfl, hb1⟩))
    go_ret
    exact ⟨rfl, Below.trans (by (repeat (first | with_reducible exact Below.refl _ _ | with_reducible assumption | with_reducible refine below_drewN0 ?_ _ | with_reducible refine Below.drew ?_ | with_reducible refine Below.alloc ?_ ?_ _ | with_reducible refine Below.setCell ?_ ?_ _ | go_size | exact Below.size (by assumption)))) (hb1.mono (by simp))⟩
  have h60' : decide ((60 : Int) < (l.length : Int)) = false := decide_eq_false (by omega)
  have HO := ownE l 71 0 A c w hr hc (by omega)
  have HK := fun g W hR hG => keptE l 71 0 g A c W hR hc (by omega) hG
  have H1 := fun A c W hR hc => gmk_any n l A c W hR hc (by omega)
  have H2 := fun A c W hR hc => rmk_any n l A c W hR hc (by omega)
  have hl1 : (chL (mkErr n l) (mkL n l)).length ≤ 61 := by
    unfold chL
    split
    · have := mkL_length n l; omega
    · simp
  generalize chL (mkErr n l) (mkL n l) = L1 at H1 H2 hl1
  generalize chN (mkErr n l) n = N1 at H1 H2
  generalize mkErr n l = E1 at H1 H2
  have HQ1 := fun A1 A2 c1 c2 W h1 h2 hc1 hc2 => graph_eq N1 L1 A1 A2 c1 c2 W h1 h2 hc1 hc2 (by omega)
  go_enter Try.func5, Try.ntmps5
  go_upto_region 4 with (go_at_call 26; refine HO.mono ?_; rintro e V ⟨g, rfl, hgW, hG, hb0⟩)
  have hrV := hr.below hb0
  have hrI : Reads V (some ⟨g, 0, none⟩) (pcells l) := by
    have := reads_blk hG
    rw [pcells_append] at this
    exact this.front
  have hcI : l.length ≤ l.length + 3 := by omega
  have hgl := heap_lt0 hG
  have HGB := Lib.hid hG
  clear hG HO hr
  go_upto_region 5 with (go_at_call 27; go_loud (refine (H1 _ _ _ hrI hcI).mono ?_; rintro e w1 ⟨A1, c1, rfl, hc1, hrd1, hb1⟩; have hcur1 : Below V.heap.size V w1 := hb1))
  (have hGa := heap_alloc_new w1 (Obj.cells #[Value.int .i64 N1, Value.slice A1 (L1).length c1] 25)
   have hVa : Below V.heap.size V (w1.alloc (Obj.cells #[Value.int .i64 N1, Value.slice A1 (L1).length c1] 25)) := by (repeat (first | with_reducible exact Below.refl _ _ | with_reducible assumption | with_reducible refine below_drewN0 ?_ _ | with_reducible refine Below.drew ?_ | with_reducible refine Below.alloc ?_ ?_ _ | with_reducible refine Below.setCell ?_ ?_ _ | go_size | exact Below.size (by assumption)))
   have hPa : Below (V).heap.size V (w1.alloc (Obj.cells #[Value.int .i64 N1, Value.slice A1 (L1).length c1] 25)) := Below.alloc hb1 hb1.size _
   have hRa := hrd1.below (w1 := w1.alloc (Obj.cells #[Value.int .i64 N1, Value.slice A1 (L1).length c1] 25)) (by (repeat (first | with_reducible exact Below.refl _ _ | with_reducible assumption | with_reducible refine below_drewN0 ?_ _ | with_reducible refine Below.drew ?_ | with_reducible refine Below.alloc ?_ ?_ _ | with_reducible refine Below.setCell ?_ ?_ _ | go_size | exact Below.size (by assumption))))
   generalize hV1 : w1.alloc (Obj.cells #[Value.int .i64 N1, Value.slice A1 (L1).length c1] 25) = V1 at *
   have HG1 := Lib.hid hGa
   have HV1 := Lib.hid hVa
   have HP1 := Lib.hid hPa
   have HR1 := Lib.hid hRa
   clear hGa hVa hPa hRa hV1 hrd1 hcur1)
  go_upto_region 6 with (go_at_call 28; go_loud (refine (H2 _ _ _ (hrV.below HV1.out) hc).mono ?_; rintro e w2 ⟨A2, c2, rfl, hc2, hrd2, hb2⟩; have hcur2 : Below V.heap.size V w2 := HV1.out.trans (hb2.mono HV1.out.size)))
  (have hGa := heap_alloc_new w2 (Obj.cells #[Value.int .i64 N1, Value.slice A2 (L1).length c2] 25)
   have hVa : Below V.heap.size V (w2.alloc (Obj.cells #[Value.int .i64 N1, Value.slice A2 (L1).length c2] 25)) := by (repeat (first | with_reducible exact Below.refl _ _ | with_reducible assumption | with_reducible refine below_drewN0 ?_ _ | with_reducible refine Below.drew ?_ | with_reducible refine Below.alloc ?_ ?_ _ | with_reducible refine Below.setCell ?_ ?_ _ | go_size | exact Below.size (by assumption)))
   have hPa : Below (V1).heap.size V1 (w2.alloc (Obj.cells #[Value.int .i64 N1, Value.slice A2 (L1).length c2] 25)) := Below.alloc hb2 hb2.size _
   have hRa := hrd2.below (w1 := w2.alloc (Obj.cells #[Value.int .i64 N1, Value.slice A2 (L1).length c2] 25)) (by (repeat (first | with_reducible exact Below.refl _ _ | with_reducible assumption | with_reducible refine below_drewN0 ?_ _ | with_reducible refine Below.drew ?_ | with_reducible refine Below.alloc ?_ ?_ _ | with_reducible refine Below.setCell ?_ ?_ _ | go_size | exact Below.size (by assumption))))
   generalize hV2 : w2.alloc (Obj.cells #[Value.int .i64 N1, Value.slice A2 (L1).length c2] 25) = V2 at *
   have HG2 := Lib.hid hGa
   have HV2 := Lib.hid hVa
   have HP2 := Lib.hid hPa
   have HR2 := Lib.hid hRa
   clear hGa hVa hPa hRa hV2 hrd2 hcur2)
  have hP12 := HP2.out
  have hR1 := HR1.out.below hP12
  have hR2 := HR2.out
  have hG1 := Lib.hid ((hP12.block _ (heap_lt0 HG1.out)).trans HG1.out)
  have HC := Lib.hid (fun (w' : World) (h : Below V2.heap.size V2 w') => (⟨blk2 ((h.block _ (heap_lt0 hG1.out)).trans hG1.out), blk2 ((h.block _ (heap_lt0 HG2.out)).trans HG2.out)⟩ : (_ ∧ _) ∧ (_ ∧ _)))
  have hend := hb0.trans (HV2.out.mono hb0.size)
  have hrV2 := hrV.below HV2.out
  have hGV2 := (HV2.out.block g hgl).trans HGB.out
  have hgl2 := heap_lt0 hGV2
  have hs2 := HV2.out.size
  have HGV2 := Lib.hid hGV2
  clear hP12 hb1 hb2 hGV2
  go_wp2_with (first
    | (go_at_call 25; go_loud ((refine (HA _).mono ?_; rintro e w5 ⟨rfl, hb5⟩; obtain ⟨⟨x0, x1, _⟩, ⟨y0, y1, _⟩⟩ := HC.out _ hb5)))
    | (go_at_call 29; go_loud (refine (HQ1 _ _ _ _ _ (hR1.below hb5) (hR2.below hb5) hc1 hc2).mono ?_; rintro e w6 ⟨rfl, hb6'⟩; have hb6 := hb5.trans (hb6'.mono hb5.size)))
    | (go_at_call 30; go_loud (refine (HK _ _ (hrV2.below hb6) ((hb6.block g hgl2).trans HGV2.out)).mono ?_; rintro e w7 ⟨rfl, hb7'⟩; have hb7 := hb6.trans (hb7'.mono hb6.size))))
  go_ret
  exact ⟨by simp, hend.trans (hb7.mono (by have := hb0.size; omega))⟩
end Go.Proofs.Ytglhdoibglafbaa
