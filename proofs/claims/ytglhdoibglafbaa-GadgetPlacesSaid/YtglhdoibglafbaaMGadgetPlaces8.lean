/- Walk of the document's Edges of a gadget. -/
import Derived.Test.YtglhdoibglafbaaMGadgetPlaces7
import Derived.Deep.RegionLaw
namespace Go.Proofs.Ytglhdoibglafbaa
open Go Go.RowKit
set_option maxRecDepth 100000
set_option linter.unusedVariables false

theorem heap_set1v {w : World} {g : Nat} {a b : Value} {T : TypeId} (h : w.heap[g]? = some (.cells #[a, b] T (0, 0))) (y : Value) : (w.setCell ⟨g, 1, none⟩ y).heap[g]? = some (.cells #[a, y] T (0, 0)) := by
  simp [World.setCell, Array.getElem?_modify, h]
set_option maxHeartbeats 8000000 in
theorem refEdges_ok (m : Nat) (es : List (Int × Int)) (f : List Int) (pl : List Pl) (A Af : Option Addr) (c cf : Nat) (w : World) (hr : Reads w A (pcells es)) (hrf : Reads w Af (icells f)) (hR : RightP m es)
    (HPL : ∀ (a : Nat) (x : Pl), pl[a]? = some x → 0 ≤ x.1 ∧ x.1 < (m : Int) ∧ 0 ≤ x.2.1 ∧ (x.2.2 = false → x.2.1.toNat < (nearL es x.1).length)) (hpm : pl.length ≤ 65536) (hrm : ∀ a b, a < pl.length → b ≤ pl.length → (rfL es pl a).length + (rfR es pl a b).length ≤ 90000)
    (HN : ∀ v W, Reads W A (pcells es) → Calls Try.prog 39 #[.agg #[.int .i64 (m : Int), .slice A es.length c], .int .i64 v] W (RowPost (nearL es v) W))
    (HP : ∀ W, Reads W A (pcells es) → Reads W Af (icells f) → Calls Try.prog 47 #[.agg #[.int .i64 (m : Int), .slice A es.length c], .slice Af f.length cf] W fun e w' => ∃ Ap cp, e = .returned (.tuple #[.slice Ap pl.length cp, .int .i64 0]) ∧ pl.length ≤ cp ∧ Reads w' Ap (plcells pl) ∧ Below W.heap.size W w') :
    Calls Try.prog 49 #[.agg #[.int .i64 (m : Int), .slice A es.length c], .slice Af f.length cf] w (EdPost (rfL es pl pl.length) w) := by
  have hm1 := hR.n1
  go_enter Try.func49, Try.ntmps49
  go_upto_region 4 with (first
    | (go_at_call 47; go_loud (
        refine (HP _ (hr.below ?_) (hrf.below ?_)).mono ?_
        · (repeat (first | with_reducible exact Below.refl _ _ | with_reducible assumption | with_reducible refine below_drewN0 ?_ _ | with_reducible refine Below.drew ?_ | with_reducible refine Below.alloc ?_ ?_ _ | with_reducible refine Below.setCell ?_ ?_ _ | go_size | exact Below.size (by assumption)))
        · (repeat (first | with_reducible exact Below.refl _ _ | with_reducible assumption | with_reducible refine below_drewN0 ?_ _ | with_reducible refine Below.drew ?_ | with_reducible refine Below.alloc ?_ ?_ _ | with_reducible refine Below.setCell ?_ ?_ _ | go_size | exact Below.size (by assumption)))
        rintro e w1 ⟨Ap, cp, rfl, hcp, hrp, hb1⟩
        obtain ⟨q0, q1, q2, q3, q4⟩ := blk2 ((hb1.block w.heap.size (by simp)).trans (heap_alloc_new _ _))
        have hbw : Below w.heap.size w w1 := Below.trans (by (repeat (first | with_reducible exact Below.refl _ _ | with_reducible assumption | with_reducible refine below_drewN0 ?_ _ | with_reducible refine Below.drew ?_ | with_reducible refine Below.alloc ?_ ?_ _ | with_reducible refine Below.setCell ?_ ?_ _ | go_size | exact Below.size (by assumption)))) (hb1.mono (by simp)))))
  have HG := Lib.hid (fun (W : World) (h : Below w1.heap.size w1 W) => (⟨(h.cell (p := ⟨w.heap.size, 0, none⟩) q4).trans q0, (h.cell (p := ⟨w.heap.size, 1, none⟩) q4).trans q1⟩ : W.cell? ⟨w.heap.size, 0, none⟩ = some (.int .i64 (m : Int)) ∧ W.cell? ⟨w.heap.size, 1, none⟩ = some (.slice A es.length c)))
  have hr1 := hr.below hbw
  clear q0 q1 q2 q3 q4 hb1 hr hrf HP
  have HR := Lib.hid hrp
  have HM := Lib.hid hrm
  have HPLh := Lib.hid HPL
  clear hrp hrm HPL
  go_upto_region 6 with fail
  have hQ0 := heap_alloc_new w1 (Obj.cells #[Value.int .i64 (pl.length : Int), Value.slice none 0 0] 25)
  have hb2 : Below w1.heap.size w1 (w1.alloc (Obj.cells #[Value.int .i64 (pl.length : Int), Value.slice none 0 0] 25)) := by (repeat (first | with_reducible exact Below.refl _ _ | with_reducible assumption | with_reducible refine below_drewN0 ?_ _ | with_reducible refine Below.drew ?_ | with_reducible refine Below.alloc ?_ ?_ _ | with_reducible refine Below.setCell ?_ ?_ _ | go_size | exact Below.size (by assumption)))
  generalize w1.alloc (Obj.cells #[Value.int .i64 (pl.length : Int), Value.slice none 0 0] 25) = w2 at *
  have hql := heap_lt0 hQ0
  have hw1 := hbw.size
  go_loopw [9] (fun i wx => ∃ (a : Nat) (v : Value), a ≤ pl.length ∧ i = .int .i64 a ∧ Hid (wx.heap[w1.heap.size]? = some (.cells #[Value.int .i64 (pl.length : Int), v] 25 (0, 0))) ∧ Hid (wx.ownsRow (w1.heap.size + 1) 28 2 v (rfL es pl a).length (pcells (rfL es pl a))) ∧ Below w1.heap.size w1 wx) (fun i _ => pl.length - (intOf i).toNat)
  case atStart => exact ⟨0, _, Nat.zero_le _, rfl, hQ0, own_nil0 _ _ _ _, hb2⟩
  case round =>
    clear hQ0 hb2 hql
    clear w2
    obtain ⟨a, v, ha, rfl, hQ, ho, hb⟩ := hrel
    by_cases hal : a < pl.length
    · have aI : (a : Int) < (pl.length : Int) := by omega
      go_upto_region 9 with fail
      go_loopw [10] (fun i wx => ∃ (b : Nat) (v : Value), a < b ∧ b ≤ pl.length ∧ i = .int .i64 b ∧ Hid (wx.heap[w1.heap.size]? = some (.cells #[Value.int .i64 (pl.length : Int), v] 25 (0, 0))) ∧ Hid (wx.ownsRow (w1.heap.size + 1) 28 2 v (rfL es pl a ++ rfR es pl a b).length (pcells (rfL es pl a ++ rfR es pl a b))) ∧ Below w1.heap.size w1 wx) (fun i _ => pl.length - (intOf i).toNat)
      case atStart => exact ⟨a + 1, v, by omega, by omega, by go_num, hQ, by rw [rfR_low es pl a (a + 1) (Nat.le_refl _), List.append_nil]; exact ho, hb⟩
      case round =>
        clear hQ ho hb
        obtain ⟨b, v, hab, hbl, rfl, hQ, ho, hb⟩ := hrel
        by_cases hbb : b < pl.length
        · have bI : (b : Int) < (pl.length : Int) := by omega
          obtain ⟨⟨xv, xn, xc⟩, hx⟩ : ∃ e, pl[a]? = some e := ⟨pl[a], by simp [hal]⟩
          obtain ⟨⟨yv, yn, yc⟩, hy⟩ : ∃ e, pl[b]? = some e := ⟨pl[b], by simp [hbb]⟩
          obtain ⟨bp, op, rfl, hpl, e0, e1, e2⟩ := (HR.out.below hb).pl' a _ hx
          obtain ⟨bp', op', he, _, f0, f1, f2⟩ := (HR.out.below hb).pl' b _ hy
          cases he
          dsimp only at e0 e1 e2 f0 f1 f2
          have hrS := rfR_succ es pl a b
          have hax : atP pl a = (xv, xn, xc) := by unfold atP; rw [hx]; rfl
          have hay : atP pl b = (yv, yn, yc) := by unfold atP; rw [hy]; rfl
          rw [hax, hay] at hrS
          have HS := Lib.hid hrS
          obtain ⟨x0, x1, x2, x3⟩ := HPLh.out a _ hx
          obtain ⟨y0, y1, y2, y3⟩ := HPLh.out b _ hy
          dsimp only at x0 x1 x2 x3 y0 y1 y2 y3
          have X3 := Lib.hid x3
          have Y3 := Lib.hid y3
          clear hx hy hax hay hrS x3 y3
          have hwr := Lib.hid (fun (W : World) (h : Below wr.heap.size wr W) => (⟨(h.cell (p := ⟨bp, op + a * 3, none⟩) hpl).trans e0, (h.cell (p := ⟨bp, op + a * 3 + 1, none⟩) hpl).trans e1, (h.cell (p := ⟨bp, op + a * 3 + 2, none⟩) hpl).trans e2, (h.cell (p := ⟨bp, op + b * 3, none⟩) hpl).trans f0, (h.cell (p := ⟨bp, op + b * 3 + 1, none⟩) hpl).trans f1, (h.cell (p := ⟨bp, op + b * 3 + 2, none⟩) hpl).trans f2⟩ :
            W.cell? ⟨bp, op + a * 3, none⟩ = some (.int .i64 xv) ∧ W.cell? ⟨bp, op + a * 3 + 1, none⟩ = some (.int .i64 xn) ∧ W.cell? ⟨bp, op + a * 3 + 2, none⟩ = some (.bool xc) ∧ W.cell? ⟨bp, op + b * 3, none⟩ = some (.int .i64 yv) ∧ W.cell? ⟨bp, op + b * 3 + 1, none⟩ = some (.int .i64 yn) ∧ W.cell? ⟨bp, op + b * 3 + 2, none⟩ = some (.bool yc)))
          have hS0 := hwr.out wr (Below.refl _ _)
          go_upto_region 11 with fail
          go_cut [11, 12] (fun v11 v12 wc => ∃ (X Y : Nat), v11 = .pointer (some ⟨X, 0, none⟩) ∧ v12 = .pointer (some ⟨Y, 0, none⟩) ∧ wc.cell? ⟨X, 0, none⟩ = some (.int .i64 xv) ∧ wc.cell? ⟨X, 1, none⟩ = some (.int .i64 xn) ∧ wc.cell? ⟨X, 2, none⟩ = some (.bool xc) ∧ wc.cell? ⟨Y, 0, none⟩ = some (.int .i64 yv) ∧ wc.cell? ⟨Y, 1, none⟩ = some (.int .i64 yn) ∧ wc.cell? ⟨Y, 2, none⟩ = some (.bool yc) ∧ X < wc.heap.size ∧ Y < wc.heap.size ∧ Below wr.heap.size wr wc)
          case first =>
            go_region_held3 (fun w' => w'.cell? ⟨bp, op + a * 3, none⟩ = some (.int .i64 xv) ∧ w'.cell? ⟨bp, op + a * 3 + 1, none⟩ = some (.int .i64 xn) ∧ w'.cell? ⟨bp, op + a * 3 + 2, none⟩ = some (.bool xc) ∧ w'.cell? ⟨bp, op + b * 3, none⟩ = some (.int .i64 yv) ∧ w'.cell? ⟨bp, op + b * 3 + 1, none⟩ = some (.int .i64 yn) ∧ w'.cell? ⟨bp, op + b * 3 + 2, none⟩ = some (.bool yc))
              (first | exact hS0 | (refine hwr.out _ ?_; (repeat (first | with_reducible exact Below.refl _ _ | with_reducible assumption | with_reducible refine below_drewN0 ?_ _ | with_reducible refine Below.drew ?_ | with_reducible refine Below.alloc ?_ ?_ _ | with_reducible refine Below.setCell ?_ ?_ _ | go_size | exact Below.size (by assumption))); done)) (fail)
            · go_wp2_with fail
              go_meet
              have h1 : (wr.alloc (Obj.cells #[Value.int .i64 xv, Value.int .i64 xn, Value.bool xc] 70)).heap[wr.heap.size]? = some (.cells #[Value.int .i64 xv, Value.int .i64 xn, Value.bool xc] 70 (0, 0)) := heap_alloc_new _ _
              have h2 := heap_old (o' := Obj.cells #[Value.int .i64 yv, Value.int .i64 yn, Value.bool yc] 70) h1
              have h3 := heap_alloc_new (wr.alloc (Obj.cells #[Value.int .i64 xv, Value.int .i64 xn, Value.bool xc] 70)) (Obj.cells #[Value.int .i64 yv, Value.int .i64 yn, Value.bool yc] 70)
              rw [World.size_alloc] at h3
              exact ⟨_, _, rfl, rfl, blkc h2 0 _ rfl, blkc h2 1 _ rfl, blkc h2 2 _ rfl, blkc h3 0 _ rfl, blkc h3 1 _ rfl, blkc h3 2 _ rfl, by go_size, by go_size, by (repeat (first | with_reducible exact Below.refl _ _ | with_reducible assumption | with_reducible refine below_drewN0 ?_ _ | with_reducible refine Below.drew ?_ | with_reducible refine Below.alloc ?_ ?_ _ | with_reducible refine Below.setCell ?_ ?_ _ | go_size | exact Below.size (by assumption)))⟩
            · go_wp2_with fail
              go_meet
              have h1 : (wr.alloc (Obj.cells #[Value.int .i64 yv, Value.int .i64 yn, Value.bool yc] 70)).heap[wr.heap.size]? = some (.cells #[Value.int .i64 yv, Value.int .i64 yn, Value.bool yc] 70 (0, 0)) := heap_alloc_new _ _
              have h2 := heap_old (o' := Obj.cells #[Value.int .i64 xv, Value.int .i64 xn, Value.bool xc] 70) h1
              have h3 := heap_alloc_new (wr.alloc (Obj.cells #[Value.int .i64 yv, Value.int .i64 yn, Value.bool yc] 70)) (Obj.cells #[Value.int .i64 xv, Value.int .i64 xn, Value.bool xc] 70)
              rw [World.size_alloc] at h3
              exact ⟨_, _, rfl, rfl, blkc h3 0 _ rfl, blkc h3 1 _ rfl, blkc h3 2 _ rfl, blkc h2 0 _ rfl, blkc h2 1 _ rfl, blkc h2 2 _ rfl, by go_size, by go_size, by (repeat (first | with_reducible exact Below.refl _ _ | with_reducible assumption | with_reducible refine below_drewN0 ?_ _ | with_reducible refine Below.drew ?_ | with_reducible refine Below.alloc ?_ ?_ _ | with_reducible refine Below.setCell ?_ ?_ _ | go_size | exact Below.size (by assumption)))⟩
          case rest =>
            obtain ⟨X, Y, rfl, rfl, c0, c1, c2, d0, d1, d2, hX, hY, hbc⟩ := hcut
            clear e0 e1 e2 f0 f1 f2 hwr hS0 hpl
            have hwrs := hb.size
            have hbx : Below w1.heap.size w1 wc := hb.trans (hbc.mono hwrs)
            have hQl := heap_lt0 hQ.out
            have hQc := Lib.hid (fun (W : World) (h : Below wr.heap.size wr W) => (h.block w1.heap.size hQl).trans hQ.out)
            have hoc := Lib.hid (fun (W : World) (h : Below wr.heap.size wr W) => own_below0 ho.out h)
            have hMM := HM.out a (b + 1) hal (by omega)
            clear hQ ho
            by_cases hv : xv = yv
            · subst hv
              cases xc
              · cases yc
                · have hj : joinB es (xv, xn, false) (xv, yn, false) = false := by simp [joinB]
                  (go_wp2_with fail
                   go_roundw
                   case rel =>
                     refine ⟨b + 1, v, by omega, by omega, by go_num, hQc.out _ hbc, ?_, hb.trans ((hbc).mono hwrs)⟩
                     rw [HS.out, if_neg (by rw [hj]; simp)]
                     exact hoc.out _ hbc
                   case measure => simp [intOf]; omega)
                · have hj : joinB es (xv, xn, false) (xv, yn, true) = true := by simp [joinB]
                  (have hLl : (rfL es pl a ++ rfR es pl a (b + 1)).length = (rfL es pl a ++ rfR es pl a b).length + 1 := by rw [HS.out, if_pos ⟨hab, hj⟩]; simp [← List.append_assoc]
                   have hLe : Hid (rfL es pl a ++ rfR es pl a (b + 1) = (rfL es pl a ++ rfR es pl a b) ++ [((a : Int), (b : Int))]) := by unfold Hid; rw [HS.out, if_pos ⟨hab, hj⟩, List.append_assoc]
                   have hLb : (rfL es pl a ++ rfR es pl a b).length + 1 ≤ 90000 := by rw [List.length_append] at hLl; omega
                   have HLl := Lib.hid hLl
                   clear hLl
                   obtain ⟨k0, k1, k2, k3, k4⟩ := blk2 (hQc.out _ hbc)
                   have hoW := Lib.hid (hoc.out _ hbc)
                   have hWs := Nat.lt_of_lt_of_le hQl (hbc).size
                   have hQW := Lib.hid (hQc.out _ hbc)
                   have hbW : Below w1.heap.size w1 wc := hb.trans ((hbc).mono hwrs)
                   generalize rfL es pl a ++ rfR es pl a b = M at *
                   go_wp2_with (first
                    | (at_builtin; go_loud (
                       refine wpList_app EI_edge rfl (.tmp 105) (.tmp 109) rfl (w1.heap.size + 1) v M.length (pcells M) rfl ?_ (some ⟨_, 0, none⟩) 1 1 [.int .i64 (a : Int), .int .i64 (b : Int)] rfl ?_ rfl (by simp [Value.oneCell']) ?_ ?_ ?_
                       · exact own_below0 hoW.out (by (repeat (first | with_reducible exact Below.refl _ _ | with_reducible assumption | with_reducible refine below_drewN0 ?_ _ | with_reducible refine Below.drew ?_ | with_reducible refine Below.alloc ?_ ?_ _ | with_reducible refine Below.setCell ?_ ?_ _ | go_size | exact Below.size (by assumption))))
                       · exact reads_new _ [_, _] _
                       · omega
                       · go_size
                       intro v6 w6 hown6 hg6 hat6
                       have hne : some w1.heap.size ≠ v.ownBlock := (fun hx => by have h9 := own_lt0 hoW.out _ hx.symm; omega)
                       have hQ6 := Lib.hid ((hg6.block w1.heap.size (by go_size) hne).trans (heap_old (o' := (Obj.cells #[Value.int .i64 (a : Int), Value.int .i64 (b : Int)] 28)) hQW.out))
                       obtain ⟨l0, l1, l2, l3, l4⟩ := blk2 hQ6.out
                       have hb6 : Below w1.heap.size w1 w6 := below_app (by (repeat (first | with_reducible exact Below.refl _ _ | with_reducible assumption | with_reducible refine below_drewN0 ?_ _ | with_reducible refine Below.drew ?_ | with_reducible refine Below.alloc ?_ ?_ _ | with_reducible refine Below.setCell ?_ ?_ _ | go_size | exact Below.size (by assumption)))) hg6 (by go_size) (fun g hg => by have := (own_lt0 hoW.out g hg).1; omega)
                       obtain ⟨A6, c6, rfl, hc6, _⟩ := own_reads0 hown6)))
                   go_roundw
                   case rel =>
                     have e1 : (rfL es pl a ++ rfR es pl a (b + 1)).length = M.length + 1 := HLl.out
                     refine ⟨b + 1, _, by omega, by omega, by go_num, heap_set1v hQ6.out _, ?_, hb6.setCell (p := ⟨w1.heap.size, 1, none⟩) (Nat.le_refl _) _⟩
                     unfold Hid
                     rw [e1, hLe.out, pcells_append M [_]]
                     exact own_far hown6 fun g hg => Below.heap_setCell _ _ _ _ (by have := (own_lt0 hown6 g hg).1; dsimp only; omega)
                   case measure => simp [intOf]; omega)
              · cases yc
                · have hj : joinB es (xv, xn, true) (xv, yn, false) = true := by simp [joinB]
                  (have hLl : (rfL es pl a ++ rfR es pl a (b + 1)).length = (rfL es pl a ++ rfR es pl a b).length + 1 := by rw [HS.out, if_pos ⟨hab, hj⟩]; simp [← List.append_assoc]
                   have hLe : Hid (rfL es pl a ++ rfR es pl a (b + 1) = (rfL es pl a ++ rfR es pl a b) ++ [((a : Int), (b : Int))]) := by unfold Hid; rw [HS.out, if_pos ⟨hab, hj⟩, List.append_assoc]
                   have hLb : (rfL es pl a ++ rfR es pl a b).length + 1 ≤ 90000 := by rw [List.length_append] at hLl; omega
                   have HLl := Lib.hid hLl
                   clear hLl
                   obtain ⟨k0, k1, k2, k3, k4⟩ := blk2 (hQc.out _ hbc)
                   have hoW := Lib.hid (hoc.out _ hbc)
                   have hWs := Nat.lt_of_lt_of_le hQl (hbc).size
                   have hQW := Lib.hid (hQc.out _ hbc)
                   have hbW : Below w1.heap.size w1 wc := hb.trans ((hbc).mono hwrs)
                   generalize rfL es pl a ++ rfR es pl a b = M at *
                   go_wp2_with (first
                    | (at_builtin; go_loud (
                       refine wpList_app EI_edge rfl (.tmp 105) (.tmp 109) rfl (w1.heap.size + 1) v M.length (pcells M) rfl ?_ (some ⟨_, 0, none⟩) 1 1 [.int .i64 (a : Int), .int .i64 (b : Int)] rfl ?_ rfl (by simp [Value.oneCell']) ?_ ?_ ?_
                       · exact own_below0 hoW.out (by (repeat (first | with_reducible exact Below.refl _ _ | with_reducible assumption | with_reducible refine below_drewN0 ?_ _ | with_reducible refine Below.drew ?_ | with_reducible refine Below.alloc ?_ ?_ _ | with_reducible refine Below.setCell ?_ ?_ _ | go_size | exact Below.size (by assumption))))
                       · exact reads_new _ [_, _] _
                       · omega
                       · go_size
                       intro v6 w6 hown6 hg6 hat6
                       have hne : some w1.heap.size ≠ v.ownBlock := (fun hx => by have h9 := own_lt0 hoW.out _ hx.symm; omega)
                       have hQ6 := Lib.hid ((hg6.block w1.heap.size (by go_size) hne).trans (heap_old (o' := (Obj.cells #[Value.int .i64 (a : Int), Value.int .i64 (b : Int)] 28)) hQW.out))
                       obtain ⟨l0, l1, l2, l3, l4⟩ := blk2 hQ6.out
                       have hb6 : Below w1.heap.size w1 w6 := below_app (by (repeat (first | with_reducible exact Below.refl _ _ | with_reducible assumption | with_reducible refine below_drewN0 ?_ _ | with_reducible refine Below.drew ?_ | with_reducible refine Below.alloc ?_ ?_ _ | with_reducible refine Below.setCell ?_ ?_ _ | go_size | exact Below.size (by assumption)))) hg6 (by go_size) (fun g hg => by have := (own_lt0 hoW.out g hg).1; omega)
                       obtain ⟨A6, c6, rfl, hc6, _⟩ := own_reads0 hown6)))
                   go_roundw
                   case rel =>
                     have e1 : (rfL es pl a ++ rfR es pl a (b + 1)).length = M.length + 1 := HLl.out
                     refine ⟨b + 1, _, by omega, by omega, by go_num, heap_set1v hQ6.out _, ?_, hb6.setCell (p := ⟨w1.heap.size, 1, none⟩) (Nat.le_refl _) _⟩
                     unfold Hid
                     rw [e1, hLe.out, pcells_append M [_]]
                     exact own_far hown6 fun g hg => Below.heap_setCell _ _ _ _ (by have := (own_lt0 hown6 g hg).1; dsimp only; omega)
                   case measure => simp [intOf]; omega)
                · have hj : joinB es (xv, xn, true) (xv, yn, true) = false := by simp [joinB]
                  (go_wp2_with fail
                   go_roundw
                   case rel =>
                     refine ⟨b + 1, v, by omega, by omega, by go_num, hQc.out _ hbc, ?_, hb.trans ((hbc).mono hwrs)⟩
                     rw [HS.out, if_neg (by rw [hj]; simp)]
                     exact hoc.out _ hbc
                   case measure => simp [intOf]; omega)
            · have hv1 : (xv == yv) = false := by simpa using hv
              have hv2 : (xv != yv) = true := by simpa using hv
              have hv3 : decide (xv = yv) = false := decide_eq_false hv
              cases xc
              · cases yc
                · obtain ⟨xk, rfl⟩ : ∃ k : Nat, xn = k := ⟨xn.toNat, by omega⟩
                  obtain ⟨yk, rfl⟩ : ∃ k : Nat, yn = k := ⟨yn.toNat, by omega⟩
                  have hxl := X3.out rfl
                  have hyl := Y3.out rfl
                  rw [Int.toNat_natCast] at hxl hyl
                  have hj0 : joinB es (xv, (xk : Int), false) (yv, (yk : Int), false) = (decide ((nearL es xv)[xk]? = some yv) && decide ((nearL es yv)[yk]? = some xv)) := by simp [joinB, hv]
                  obtain ⟨u, hu⟩ : ∃ u, (nearL es xv)[xk]? = some u := ⟨(nearL es xv)[xk], by simp [hxl]⟩
                  obtain ⟨t, ht⟩ : ∃ u, (nearL es yv)[yk]? = some u := ⟨(nearL es yv)[yk], by simp [hyl]⟩
                  rw [hu, ht] at hj0
                  have HU := Lib.hid hu
                  have HT := Lib.hid ht
                  have hll := nearL_length es xv
                  have hlm := nearL_length es yv
                  have hes := hR.len
                  have HNx := fun W h => HN xv W h
                  have HNy := fun W h => HN yv W h
                  clear hu ht
                  generalize nearL es xv = lx at *
                  generalize nearL es yv = ly at *
                  obtain ⟨V, hVe⟩ : ∃ V : World, V = wc := ⟨_, rfl⟩
                  have hCC := Lib.hid (fun (W : World) (h : Below wc.heap.size wc W) => (⟨(HG.out W (hbx.trans (h.mono hbx.size))).1, (HG.out W (hbx.trans (h.mono hbx.size))).2, (h.cell (p := ⟨X, 0, none⟩) hX).trans c0, (h.cell (p := ⟨X, 1, none⟩) hX).trans c1, (h.cell (p := ⟨Y, 0, none⟩) hY).trans d0, (h.cell (p := ⟨Y, 1, none⟩) hY).trans d1⟩ :
                    W.cell? ⟨w.heap.size, 0, none⟩ = some (.int .i64 (m : Int)) ∧ W.cell? ⟨w.heap.size, 1, none⟩ = some (.slice A es.length c) ∧ W.cell? ⟨X, 0, none⟩ = some (.int .i64 xv) ∧ W.cell? ⟨X, 1, none⟩ = some (.int .i64 (xk : Int)) ∧ W.cell? ⟨Y, 0, none⟩ = some (.int .i64 yv) ∧ W.cell? ⟨Y, 1, none⟩ = some (.int .i64 (yk : Int))))
                  have hrV := hr1.below hbx
                  have hcur : Below wc.heap.size wc wc := Below.refl _ _
                  go_upto_region 14 with fail
                  obtain ⟨s0, s1, s2, s3, s4, s5⟩ := hCC.out wc hcur
                  have HJ := Lib.hid hj0
                  clear hj0 hVe c0 c1 c2 d0 d1 d2
                  go_region_held3 (fun w' => w'.cell? ⟨w.heap.size, 0, none⟩ = some (.int .i64 (m : Int)) ∧ w'.cell? ⟨w.heap.size, 1, none⟩ = some (.slice A es.length c) ∧ w'.cell? ⟨X, 0, none⟩ = some (.int .i64 xv) ∧ w'.cell? ⟨Y, 0, none⟩ = some (.int .i64 yv))
                    (first | exact ⟨s0, s1, s2, s4⟩ | (refine ⟨(hCC.out _ ?_).1, (hCC.out _ ?_).2.1, (hCC.out _ ?_).2.2.1, (hCC.out _ ?_).2.2.2.2.1⟩ <;> (repeat (first | with_reducible exact Below.refl _ _ | with_reducible assumption | with_reducible refine below_drewN0 ?_ _ | with_reducible refine Below.drew ?_ | with_reducible refine Below.alloc ?_ ?_ _ | with_reducible refine Below.setCell ?_ ?_ _ | go_size | exact Below.size (by assumption))); done))
                    (first
                      | (go_at_call 39; go_loud ((with_reducible refine (HNx _ (hrV.below ?_)).mono ?_); (repeat (first | with_reducible exact Below.refl _ _ | with_reducible assumption | with_reducible refine below_drewN0 ?_ _ | with_reducible refine Below.drew ?_ | with_reducible refine Below.alloc ?_ ?_ _ | with_reducible refine Below.setCell ?_ ?_ _ | go_size | exact Below.size (by assumption))); rintro e wx ⟨A5, c5, rfl, hc5, hr5, hbx2⟩; (have hcur' : Below wc.heap.size wc wx := Below.trans (by (repeat (first | with_reducible exact Below.refl _ _ | with_reducible assumption | with_reducible refine below_drewN0 ?_ _ | with_reducible refine Below.drew ?_ | with_reducible refine Below.alloc ?_ ?_ _ | with_reducible refine Below.setCell ?_ ?_ _ | go_size | exact Below.size (by assumption)))) (hbx2.mono (by have := hcur.size; go_size)); clear hbx2 hcur; have hcur := hcur'; clear hcur')))
                      | (go_at_call 39; go_loud ((with_reducible refine (HNy _ (hrV.below ?_)).mono ?_); (repeat (first | with_reducible exact Below.refl _ _ | with_reducible assumption | with_reducible refine below_drewN0 ?_ _ | with_reducible refine Below.drew ?_ | with_reducible refine Below.alloc ?_ ?_ _ | with_reducible refine Below.setCell ?_ ?_ _ | go_size | exact Below.size (by assumption))); rintro e wx2 ⟨A6, c6, rfl, hc6, hr6, hbx2⟩; (first | (have hr5' := (Reads.drewN0 hr5 0).below (hbx2.mono (by go_size)); clear hr5) | skip); (have hcur' : Below wc.heap.size wc wx2 := Below.trans (by (repeat (first | with_reducible exact Below.refl _ _ | with_reducible assumption | with_reducible refine below_drewN0 ?_ _ | with_reducible refine Below.drew ?_ | with_reducible refine Below.alloc ?_ ?_ _ | with_reducible refine Below.setCell ?_ ?_ _ | go_size | exact Below.size (by assumption)))) (hbx2.mono (by have := hcur.size; go_size)); clear hbx2 hcur; have hcur := hcur'; clear hcur'))))
                  clear s0 s1 s2 s3 s4 s5
                  obtain ⟨_, _, s2, s3, s4, s5⟩ := hCC.out wx2 hcur
                  obtain ⟨b5, o5, rfl, hb5, e5⟩ := hr5'.int xk u HU.out
                  obtain ⟨b6, o6, rfl, hb6, e6⟩ := hr6.int yk t HT.out
                  have i5 : (xk : Int) < (lx.length : Int) := by omega
                  have i6 : (yk : Int) < (ly.length : Int) := by omega
                  have hbz : Below wr.heap.size wr wx2 := hbc.trans (hcur.mono hbc.size)
                  clear hr5' hr6 HNx HNy HN HU HT hrV
                  by_cases hu : u = yv
                  · have w1' : (u == yv) = true := by simpa using hu
                    have w3 : decide (u = yv) = true := decide_eq_true hu
                    by_cases ht : t = xv
                    · have hj : joinB es (xv, (xk : Int), false) (yv, (yk : Int), false) = true := by rw [HJ.out, hu, ht]; simp
                      have w2 : (t == xv) = true := by simpa using ht
                      have w4 : decide (t = xv) = true := decide_eq_true ht
                      clear hu ht
                      go_wp2_with fail
                      go_quiet (fail)
                      have hbz9 : Below wr.heap.size wr (wx2.drewN nq) := below_drewN0 hbz _
                      generalize wx2.drewN nq = W9 at *
                      (have hLl : (rfL es pl a ++ rfR es pl a (b + 1)).length = (rfL es pl a ++ rfR es pl a b).length + 1 := by rw [HS.out, if_pos ⟨hab, hj⟩]; simp [← List.append_assoc]
                       have hLe : Hid (rfL es pl a ++ rfR es pl a (b + 1) = (rfL es pl a ++ rfR es pl a b) ++ [((a : Int), (b : Int))]) := by unfold Hid; rw [HS.out, if_pos ⟨hab, hj⟩, List.append_assoc]
                       have hLb : (rfL es pl a ++ rfR es pl a b).length + 1 ≤ 90000 := by rw [List.length_append] at hLl; omega
                       have HLl := Lib.hid hLl
                       clear hLl
                       obtain ⟨k0, k1, k2, k3, k4⟩ := blk2 (hQc.out _ hbz9)
                       have hoW := Lib.hid (hoc.out _ hbz9)
                       have hWs := Nat.lt_of_lt_of_le hQl (hbz9).size
                       have hQW := Lib.hid (hQc.out _ hbz9)
                       have hbW : Below w1.heap.size w1 W9 := hb.trans ((hbz9).mono hwrs)
                       generalize rfL es pl a ++ rfR es pl a b = M at *
                       go_wp2_with (first
                        | (at_builtin; go_loud (
                           refine wpList_app EI_edge rfl (.tmp 105) (.tmp 109) rfl (w1.heap.size + 1) v M.length (pcells M) rfl ?_ (some ⟨_, 0, none⟩) 1 1 [.int .i64 (a : Int), .int .i64 (b : Int)] rfl ?_ rfl (by simp [Value.oneCell']) ?_ ?_ ?_
                           · exact own_below0 hoW.out (by (repeat (first | with_reducible exact Below.refl _ _ | with_reducible assumption | with_reducible refine below_drewN0 ?_ _ | with_reducible refine Below.drew ?_ | with_reducible refine Below.alloc ?_ ?_ _ | with_reducible refine Below.setCell ?_ ?_ _ | go_size | exact Below.size (by assumption))))
                           · exact reads_new _ [_, _] _
                           · omega
                           · go_size
                           intro v6 w6 hown6 hg6 hat6
                           have hne : some w1.heap.size ≠ v.ownBlock := (fun hx => by have h9 := own_lt0 hoW.out _ hx.symm; omega)
                           have hQ6 := Lib.hid ((hg6.block w1.heap.size (by go_size) hne).trans (heap_old (o' := (Obj.cells #[Value.int .i64 (a : Int), Value.int .i64 (b : Int)] 28)) hQW.out))
                           obtain ⟨l0, l1, l2, l3, l4⟩ := blk2 hQ6.out
                           have hb6 : Below w1.heap.size w1 w6 := below_app (by (repeat (first | with_reducible exact Below.refl _ _ | with_reducible assumption | with_reducible refine below_drewN0 ?_ _ | with_reducible refine Below.drew ?_ | with_reducible refine Below.alloc ?_ ?_ _ | with_reducible refine Below.setCell ?_ ?_ _ | go_size | exact Below.size (by assumption)))) hg6 (by go_size) (fun g hg => by have := (own_lt0 hoW.out g hg).1; omega)
                           obtain ⟨A6, c6, rfl, hc6, _⟩ := own_reads0 hown6)))
                       go_roundw
                       case rel =>
                         have e1 : (rfL es pl a ++ rfR es pl a (b + 1)).length = M.length + 1 := HLl.out
                         refine ⟨b + 1, _, by omega, by omega, by go_num, heap_set1v hQ6.out _, ?_, hb6.setCell (p := ⟨w1.heap.size, 1, none⟩) (Nat.le_refl _) _⟩
                         unfold Hid
                         rw [e1, hLe.out, pcells_append M [_]]
                         exact own_far hown6 fun g hg => Below.heap_setCell _ _ _ _ (by have := (own_lt0 hown6 g hg).1; dsimp only; omega)
                       case measure => simp [intOf]; omega)
                    · have hj : joinB es (xv, (xk : Int), false) (yv, (yk : Int), false) = false := by rw [HJ.out, hu]; simp [ht]
                      have w2 : (t == xv) = false := by simpa using ht
                      have w4 : decide (t = xv) = false := decide_eq_false ht
                      clear hu ht
                      go_wp2_with fail
                      go_quiet (fail)
                      have hbz9 : Below wr.heap.size wr (wx2.drewN nq) := below_drewN0 hbz _
                      generalize wx2.drewN nq = W9 at *
                      (go_wp2_with fail
                       go_roundw
                       case rel =>
                         refine ⟨b + 1, v, by omega, by omega, by go_num, hQc.out _ hbz9, ?_, hb.trans ((hbz9).mono hwrs)⟩
                         rw [HS.out, if_neg (by rw [hj]; simp)]
                         exact hoc.out _ hbz9
                       case measure => simp [intOf]; omega)
                  · have hj : joinB es (xv, (xk : Int), false) (yv, (yk : Int), false) = false := by rw [HJ.out]; simp [hu]
                    have w2 : (u == yv) = false := by simpa using hu
                    have w4 : decide (u = yv) = false := decide_eq_false hu
                    clear hu
                    go_wp2_with fail
                    go_quiet (fail)
                    have hbz9 : Below wr.heap.size wr (wx2.drewN nq) := below_drewN0 hbz _
                    generalize wx2.drewN nq = W9 at *
                    (go_wp2_with fail
                     go_roundw
                     case rel =>
                       refine ⟨b + 1, v, by omega, by omega, by go_num, hQc.out _ hbz9, ?_, hb.trans ((hbz9).mono hwrs)⟩
                       rw [HS.out, if_neg (by rw [hj]; simp)]
                       exact hoc.out _ hbz9
                     case measure => simp [intOf]; omega)
                · have hj : joinB es (xv, xn, false) (yv, yn, true) = false := by simp [joinB, hv]
                  (go_wp2_with fail
                   go_roundw
                   case rel =>
                     refine ⟨b + 1, v, by omega, by omega, by go_num, hQc.out _ hbc, ?_, hb.trans ((hbc).mono hwrs)⟩
                     rw [HS.out, if_neg (by rw [hj]; simp)]
                     exact hoc.out _ hbc
                   case measure => simp [intOf]; omega)
              · cases yc
                · have hj : joinB es (xv, xn, true) (yv, yn, false) = false := by simp [joinB, hv]
                  (go_wp2_with fail
                   go_roundw
                   case rel =>
                     refine ⟨b + 1, v, by omega, by omega, by go_num, hQc.out _ hbc, ?_, hb.trans ((hbc).mono hwrs)⟩
                     rw [HS.out, if_neg (by rw [hj]; simp)]
                     exact hoc.out _ hbc
                   case measure => simp [intOf]; omega)
                · have hj : joinB es (xv, xn, true) (yv, yn, true) = false := by simp [joinB, hv]
                  (go_wp2_with fail
                   go_roundw
                   case rel =>
                     refine ⟨b + 1, v, by omega, by omega, by go_num, hQc.out _ hbc, ?_, hb.trans ((hbc).mono hwrs)⟩
                     rw [HS.out, if_neg (by rw [hj]; simp)]
                     exact hoc.out _ hbc
                   case measure => simp [intOf]; omega)
        · obtain rfl : b = pl.length := by omega
          go_wp2_with fail
          go_roundw
          case rel => exact ⟨a + 1, v, by omega, by go_num, hQ, by rw [rfL_succ]; exact ho, hb⟩
          case measure => simp [intOf]; omega
    · obtain rfl : a = pl.length := by omega
      obtain ⟨k0, k1, k2, k3, k4⟩ := blk2 hQ.out
      obtain ⟨A5, c5, rfl, hc5, hr5⟩ := own_reads0 ho.out
      go_wp2_with fail
      go_ret2
      exact ⟨A5, c5, rfl, hc5, hr5, hbw.trans (hb.mono hw1)⟩
end Go.Proofs.Ytglhdoibglafbaa

/- Gadgets that are refused: Size, Edges, and the document's Edges. -/
namespace Go.Proofs.Ytglhdoibglafbaa
open Go Go.RowKit
set_option maxRecDepth 100000
set_option linter.unusedVariables false

theorem size_err (n d : Int) (es : List (Int × Int)) (f : List Int) (A Af : Option Addr) (c cf : Nat) (w : World) (hr : Reads w A (pcells es)) (hrf : Reads w Af (icells f)) (hd : d ≠ 0)
    (HN : ∀ W, Reads W A (pcells es) → Reads W Af (icells f) → Calls Try.prog 61 #[.agg #[.int .i64 n, .slice A es.length c], .slice Af f.length cf] W fun e w' => e = .returned (.tuple #[.pointer none, .int .i64 d]) ∧ Below W.heap.size W w') :
    Calls Try.prog 15 #[.agg #[.int .i64 n, .slice A es.length c], .slice Af f.length cf] w fun e w' => e = .returned (.tuple #[.int .i64 0, .int .i64 0, .int .i64 d]) ∧ Below w.heap.size w w' := by
  have hd' : (d != 0) = true := by simpa using hd
  clear hd
  go_enter Try.func15, Try.ntmps15
  go_wp2_with (go_at_call 61; go_loud (refine (HN _ (hr.below ?_) (hrf.below ?_)).mono ?_; (repeat (first | with_reducible exact Below.refl _ _ | with_reducible assumption | with_reducible refine below_drewN0 ?_ _ | with_reducible refine Below.drew ?_ | with_reducible refine Below.alloc ?_ ?_ _ | with_reducible refine Below.setCell ?_ ?_ _ | go_size | exact Below.size (by assumption))); (repeat (first | with_reducible exact Below.refl _ _ | with_reducible assumption | with_reducible refine below_drewN0 ?_ _ | with_reducible refine Below.drew ?_ | with_reducible refine Below.alloc ?_ ?_ _ | with_reducible refine Below.setCell ?_ ?_ _ | go_size | exact Below.size (by assumption))); rintro e w1 ⟨rfl, hb1⟩; have hbw : Below w.heap.size w w1 := Below.trans (by (repeat (first | with_reducible exact Below.refl _ _ | with_reducible assumption | with_reducible refine below_drewN0 ?_ _ | with_reducible refine Below.drew ?_ | with_reducible refine Below.alloc ?_ ?_ _ | with_reducible refine Below.setCell ?_ ?_ _ | go_size | exact Below.size (by assumption)))) (hb1.mono (by simp))))
  go_ret3
  exact ⟨rfl, hbw⟩

theorem edges_err (n d : Int) (es : List (Int × Int)) (f : List Int) (A Af : Option Addr) (c cf : Nat) (w : World) (hr : Reads w A (pcells es)) (hrf : Reads w Af (icells f)) (hd : d ≠ 0)
    (HN : ∀ W, Reads W A (pcells es) → Reads W Af (icells f) → Calls Try.prog 61 #[.agg #[.int .i64 n, .slice A es.length c], .slice Af f.length cf] W fun e w' => e = .returned (.tuple #[.pointer none, .int .i64 d]) ∧ Below W.heap.size W w') :
    Calls Try.prog 48 #[.agg #[.int .i64 n, .slice A es.length c], .slice Af f.length cf] w fun e w' => e = .returned (.tuple #[.slice none 0 0, .int .i64 d]) ∧ Below w.heap.size w w' := by
  have hd' : (d != 0) = true := by simpa using hd
  clear hd
  go_enter Try.func48, Try.ntmps48
  go_wp2_with (go_at_call 61; go_loud (refine (HN _ (hr.below ?_) (hrf.below ?_)).mono ?_; (repeat (first | with_reducible exact Below.refl _ _ | with_reducible assumption | with_reducible refine below_drewN0 ?_ _ | with_reducible refine Below.drew ?_ | with_reducible refine Below.alloc ?_ ?_ _ | with_reducible refine Below.setCell ?_ ?_ _ | go_size | exact Below.size (by assumption))); (repeat (first | with_reducible exact Below.refl _ _ | with_reducible assumption | with_reducible refine below_drewN0 ?_ _ | with_reducible refine Below.drew ?_ | with_reducible refine Below.alloc ?_ ?_ _ | with_reducible refine Below.setCell ?_ ?_ _ | go_size | exact Below.size (by assumption))); rintro e w1 ⟨rfl, hb1⟩; have hbw : Below w.heap.size w w1 := Below.trans (by (repeat (first | with_reducible exact Below.refl _ _ | with_reducible assumption | with_reducible refine below_drewN0 ?_ _ | with_reducible refine Below.drew ?_ | with_reducible refine Below.alloc ?_ ?_ _ | with_reducible refine Below.setCell ?_ ?_ _ | go_size | exact Below.size (by assumption)))) (hb1.mono (by simp))))
  go_ret2
  exact ⟨rfl, hbw⟩

theorem refEdges_err (n d : Int) (es : List (Int × Int)) (f : List Int) (A Af : Option Addr) (c cf : Nat) (w : World) (hr : Reads w A (pcells es)) (hrf : Reads w Af (icells f)) (hd : d ≠ 0)
    (HN : ∀ W, Reads W A (pcells es) → Reads W Af (icells f) → Calls Try.prog 47 #[.agg #[.int .i64 n, .slice A es.length c], .slice Af f.length cf] W fun e w' => e = .returned (.tuple #[.slice none 0 0, .int .i64 d]) ∧ Below W.heap.size W w') :
    Calls Try.prog 49 #[.agg #[.int .i64 n, .slice A es.length c], .slice Af f.length cf] w fun e w' => e = .returned (.tuple #[.slice none 0 0, .int .i64 d]) ∧ Below w.heap.size w w' := by
  have hd' : (d != 0) = true := by simpa using hd
  clear hd
  go_enter Try.func49, Try.ntmps49
  go_wp2_with (go_at_call 47; go_loud (refine (HN _ (hr.below ?_) (hrf.below ?_)).mono ?_; (repeat (first | with_reducible exact Below.refl _ _ | with_reducible assumption | with_reducible refine below_drewN0 ?_ _ | with_reducible refine Below.drew ?_ | with_reducible refine Below.alloc ?_ ?_ _ | with_reducible refine Below.setCell ?_ ?_ _ | go_size | exact Below.size (by assumption))); (repeat (first | with_reducible exact Below.refl _ _ | with_reducible assumption | with_reducible refine below_drewN0 ?_ _ | with_reducible refine Below.drew ?_ | with_reducible refine Below.alloc ?_ ?_ _ | with_reducible refine Below.setCell ?_ ?_ _ | go_size | exact Below.size (by assumption))); rintro e w1 ⟨rfl, hb1⟩; have hbw : Below w.heap.size w w1 := Below.trans (by (repeat (first | with_reducible exact Below.refl _ _ | with_reducible assumption | with_reducible refine below_drewN0 ?_ _ | with_reducible refine Below.drew ?_ | with_reducible refine Below.alloc ?_ ?_ _ | with_reducible refine Below.setCell ?_ ?_ _ | go_size | exact Below.size (by assumption)))) (hb1.mono (by simp))))
  go_ret2
  exact ⟨rfl, hbw⟩
end Go.Proofs.Ytglhdoibglafbaa

/- Edges of gadgets: the document's, and both of them in all cases. -/
namespace Go.Proofs.Ytglhdoibglafbaa
open Go Go.RowKit
set_option maxRecDepth 100000
set_option linter.unusedVariables false

theorem rfR_mono (es : List PE) (l : List Pl) (a : Nat) {b : Nat} : ∀ {d : Nat}, b ≤ d → (rfR es l a b).length ≤ (rfR es l a d).length := by
  intro d
  induction d with
  | zero => intro h; obtain rfl : b = 0 := by omega
            exact Nat.le_refl _
  | succ d ih =>
    intro h
    by_cases he : b = d + 1
    · subst he; exact Nat.le_refl _
    · have h1 := ih (by omega)
      rw [rfR_succ]
      split
      · rw [List.length_append]; omega
      · exact h1
theorem rfL_mono (es : List PE) (l : List Pl) {b : Nat} : ∀ {d : Nat}, b ≤ d → (rfL es l b).length ≤ (rfL es l d).length := by
  intro d
  induction d with
  | zero => intro h; obtain rfl : b = 0 := by omega
            exact Nat.le_refl _
  | succ d ih =>
    intro h
    by_cases he : b = d + 1
    · subst he; exact Nat.le_refl _
    · have := ih (by omega)
      rw [rfL_succ, List.length_append]; omega

theorem refEdges_any (m : Nat) (es : List (Int × Int)) (f : List Int) (A Af : Option Addr) (c cf : Nat) (w : World) (hr : Reads w A (pcells es)) (hc : es.length ≤ c) (hl : es.length ≤ 100)
    (hrf : Reads w Af (icells f)) (hcf : f.length ≤ cf) (hmf : f.length ≤ 4611686018427387903) (hde : degErr m es f = 0) :
    Calls Try.prog 49 #[.agg #[.int .i64 (m : Int), .slice A es.length c], .slice Af f.length cf] w (EdPost (edgesL m es f) w) := by
  obtain ⟨hP, hfl, hfb, hs⟩ := degErr_small hde
  have hG := gad_ok m es f hde
  have hn := gad_len m es f hde hl
  have hlen := lay_len m es f hde hl
  have hsort := lay_sorted hG
  have hel : (rfL es (plAll m es f) (plAll m es f).length).length ≤ 90000 := by
    have h1 : (rfL es (plAll m es f) (plAll m es f).length) = sortL (layL (gadF m es f) (ports m es) (plC m es f) m es) := hsort.symm
    rw [h1, (sortL_perm _).length_eq]; exact hlen
  have hR := (right_iff _ _).2 hP
  refine refEdges_ok m es f (plAll m es f) A Af c cf w hr hrf hP (fun a x hx => ?_) hn.2 (fun a b ha hb => ?_) (fun v W h => ?_) (fun W h1 h2 => ?_)
  · have ha : a < off (ports m es) (plC m es f) m := (List.getElem?_eq_some_iff.1 hx).1
    obtain ⟨v, hv, ⟨i, hi, rfl⟩ | ⟨i, hi, rfl⟩⟩ := off_inv _ _ _ m ha
    · have h1 := pl_port (ports m es) (plC m es f) v i hi m hv
      rw [show plAll m es f = placesL (ports m es) (plC m es f) m from rfl, h1] at hx
      cases hx
      have h2 := hG.hP v hv
      refine ⟨?_, ?_, ?_, fun _ => ?_⟩
      · simp
      · simp; omega
      · simp
      · simp only [Int.toNat_natCast]; rw [← h2]; exact hi
    · have h1 := pl_core (ports m es) (plC m es f) v i hi m hv
      rw [show plAll m es f = placesL (ports m es) (plC m es f) m from rfl, h1] at hx
      cases hx
      refine ⟨?_, ?_, ?_, fun h => ?_⟩
      · simp
      · simp; omega
      · simp
      · simp at h
  · have h1 := rfR_mono es (plAll m es f) a hb
    have h2 := rfL_mono es (plAll m es f) (show a + 1 ≤ (plAll m es f).length by omega)
    rw [rfL_succ, List.length_append] at h2
    omega
  · have h1 := refNear_any m v es A c W h hc (by omega)
    rw [nearB_right hR] at h1
    exact h1
  · refine (refPlaces_any m es f A Af c cf W h1 hc hl h2 hcf hmf hde).mono ?_
    rintro e w' ⟨v, rfl, ho, hb⟩
    obtain ⟨Ap, cp, rfl, hcp, hrp⟩ := own_reads0 ho
    exact ⟨Ap, cp, rfl, hcp, hrp, hb⟩
end Go.Proofs.Ytglhdoibglafbaa

/- The walk of put: an edge among some that rise. -/

namespace Go.Proofs.Ytglhdoibglafbaa
open Go Go.RowKit
set_option maxRecDepth 100000
set_option linter.unusedVariables false


set_option maxHeartbeats 2000000 in
theorem put_any (es : List (Int × Int)) (x y : Int) (A : Option Addr) (c : Nat) (w : World) (hr : Reads w A (pcells es)) (hc : es.length ≤ c) (hm : es.length ≤ 100000) :
    Calls Try.prog 89 #[.slice A es.length c, .agg #[.int .i64 x, .int .i64 y]] w fun e w' => ∃ v, e = .returned v ∧ w'.ownsRow w.heap.size 28 2 v (es.length + 1) (pcells (putE es (x, y))) ∧ Below w.heap.size w w' := by
  go_enter Try.func89, Try.ntmps89
  go_wp2
  generalize hW : w.alloc (Obj.cells #[Value.int IntKind.i64 x, Value.int IntKind.i64 y] 28) = W
  have hbW : Below w.heap.size w W := by rw [← hW]; (repeat (first | with_reducible exact Below.refl _ _ | with_reducible assumption | with_reducible refine below_drewN0 ?_ _ | with_reducible refine Below.drew ?_ | with_reducible refine Below.alloc ?_ ?_ _ | with_reducible refine Below.setCell ?_ ?_ _ | go_size | exact Below.size (by assumption)))
  have hr1 := hr.below hbW
  have hg0 : W.cell? ⟨w.heap.size, 0, none⟩ = some (.int .i64 x) := by rw [← hW]; simp [go_sem]
  have hg1 : W.cell? ⟨w.heap.size, 1, none⟩ = some (.int .i64 y) := by rw [← hW]; simp [go_sem]
  have hgW : w.heap.size < W.heap.size := by rw [← hW]; simp
  clear hW hr
  go_loopw [5] (fun i wr => ∃ k : Nat, k ≤ es.length ∧ i = .int .i64 k ∧ Hid (putK es (x, y) es.length = putK es (x, y) k) ∧ Below W.heap.size W wr) (fun i _ => (intOf i).toNat)
  case atStart => exact ⟨es.length, Nat.le_refl _, rfl, rfl, Below.refl _ _⟩
  case round =>
    obtain ⟨k, hk, rfl, hok, hb⟩ := hrel
    have hg0' := (hb.cell (p := ⟨w.heap.size, 0, none⟩) hgW).trans hg0
    have hg1' := (hb.cell (p := ⟨w.heap.size, 1, none⟩) hgW).trans hg1
    have hfin : ∀ w', Below W.heap.size wr w' → Below w.heap.size w w' := fun w' h' => hbW.trans ((hb.trans h').mono hbW.size)
    have hWr : W.heap.size ≤ wr.heap.size := hb.size
    have hgr : w.heap.size < wr.heap.size := Nat.lt_of_lt_of_le hgW hb.size
    cases k with
    | zero =>
      (go_wp2_with fail
       refine wp_quiet_tail 9 (by kernel_rfl) (by kernel_rfl) ?_
       simp only [List.take_succ_cons, List.take_zero, List.drop_succ_cons, List.drop_zero]
       repeat (go_big_quiet_step (fail))
       refine wpQuiet_nil ?_
       intro _ hw'
       obtain ⟨nq, hw''⟩ := hw'
       subst hw'')
      go_wp2_with fail
      have hr2 := hr1.below hb
      have hS : ∀ w', Below wr.heap.size wr w' → w'.cell? ⟨w.heap.size, 0, none⟩ = some (.int .i64 x) ∧ w'.cell? ⟨w.heap.size, 1, none⟩ = some (.int .i64 y) := fun w' h' => ⟨(h'.cell (p := ⟨w.heap.size, 0, none⟩) hgr).trans hg0', (h'.cell (p := ⟨w.heap.size, 1, none⟩) hgr).trans hg1'⟩
      have HK0 : Hid (putK es (x, y) es.length = 0) := hok
      have hW0 : Below W.heap.size wr wr := Below.refl _ _
      clear hr1
      (have hlen := pcells_length es
       have hk1 : 0 ≤ es.length := by omega
       have HS := Lib.hid hS
       have HRT : Hid (Reads wr A (pcells (es.take 0))) := by
         have := (hr2).cut c 0 0 2 (Nat.zero_le _) (by rw [hlen]; omega) (by rw [hlen]; omega) (by omega)
         rw [pcells_take]
         by_cases hc0 : c = 0
         · have : pcells es = [] := List.eq_nil_of_length_eq_zero (by rw [hlen]; omega)
           exact .inl (by rw [this]; simp)
         · rw [if_neg hc0] at this
           simp only [Nat.zero_mul, List.drop_zero] at this
           rcases hr2 with h | ⟨b9, o9, h9, _⟩
           · exact .inl (by rw [h]; simp)
           · rw [h9] at this ⊢
             rwa [show ((some (⟨b9, o9, none⟩ : Addr)).map (·.add 0)) = some ⟨b9, o9, none⟩ by simp [Addr.add]] at this
       have HRD : Hid (Reads wr (if c = 0 then A else (A).map (·.add (0 * 2))) (pcells (es.drop 0))) := by
         have := (hr2).cut c 0 es.length 2 hk1 (by rw [hlen]; omega) (by rw [hlen]; omega) (by omega)
         rw [pcells_drop]
         rwa [List.take_of_length_le (by rw [hlen]; omega)] at this
       have HL1 : Hid ((pcells (es.take 0)).length = 0 * 2) := by unfold Hid; rw [pcells_length]; simp; try omega
       have HL2 : Hid ((pcells (es.drop 0)).length = (es.length - 0) * 2) := by unfold Hid; rw [pcells_length]; simp; try omega
       have HRD0 : Hid (Reads wr A (pcells (es.drop 0))) := hr2
       clear hlen
       go_region_held3 (fun w' => w'.cell? ⟨w.heap.size, 0, none⟩ = some (.int .i64 x) ∧ w'.cell? ⟨w.heap.size, 1, none⟩ = some (.int .i64 y)) (first | exact HS.out _ hb3 | exact HS.out _ hb2 | exact HS.out _ hb1 | exact HS.out _ (Below.alloc hb1 hb1.size _) | (refine HS.out _ ?_; (repeat (first | with_reducible exact Below.refl _ _ | with_reducible assumption | with_reducible refine below_drewN0 ?_ _ | with_reducible refine Below.drew ?_ | with_reducible refine Below.alloc ?_ ?_ _ | with_reducible refine Below.setCell ?_ ?_ _ | go_size | exact Below.size (by assumption))); done))
         (first
           | (refine step_app EI_edge rfl (.const (.slice none 0 0)) (.tmp 23) rfl (wr).heap.size (.slice none 0 0) 0 [] rfl (own_nil0 _ _ _ _) _ 0 _ (pcells (es.take 0)) rfl ?_ HL1.out (pcells_one _) ?_ ?_ ?_
              · exact HRT.out.below (by (repeat (first | with_reducible exact Below.refl _ _ | with_reducible assumption | with_reducible refine below_drewN0 ?_ _ | with_reducible refine Below.drew ?_ | with_reducible refine Below.alloc ?_ ?_ _ | with_reducible refine Below.setCell ?_ ?_ _ | go_size | exact Below.size (by assumption))))
              · omega
              · go_size
              intro v1 w1 hown1 hg1 hat1
              have hb1 : Below (wr).heap.size wr w1 := below_app (by (repeat (first | with_reducible exact Below.refl _ _ | with_reducible assumption | with_reducible refine below_drewN0 ?_ _ | with_reducible refine Below.drew ?_ | with_reducible refine Below.alloc ?_ ?_ _ | with_reducible refine Below.setCell ?_ ?_ _ | go_size | exact Below.size (by assumption)))) hg1 (by go_size) (by simp [Value.ownBlock]))
           | (refine step_app EI_edge rfl (.tmp 24) (.tmp 26) rfl (wr).heap.size v1 (0 + 0) ([] ++ pcells (es.take 0)) rfl ?_ (some ⟨_, 0, none⟩) 1 1 [.int .i64 x, .int .i64 y] rfl ?_ rfl ?_ ?_ ?_ ?_
              · first | exact hown1 | exact own_below0 hown1 (by (repeat (first | with_reducible exact Below.refl _ _ | with_reducible assumption | with_reducible refine below_drewN0 ?_ _ | with_reducible refine Below.drew ?_ | with_reducible refine Below.alloc ?_ ?_ _ | with_reducible refine Below.setCell ?_ ?_ _ | go_size | exact Below.size (by assumption))))
              · (first | exact reads_new _ [_, _] _ | (refine Reads.grown ?_ hg1 (by simp [Value.ownBlock]); exact reads_new _ [_, _] _))
              · simp [Value.oneCell']
              · omega
              · first | exact hb1.size | (have := hb1.size; go_size)
              intro v2 w2 hown2 hg2 hat2
              have hb2 : Below (wr).heap.size wr w2 := (by first | exact below_app hb1 hg2 hb1.size (fun g hg => (own_lt0 hown1 g hg).1) | exact below_app (Below.alloc hb1 hb1.size _) hg2 (by have := hb1.size; go_size) (fun g hg => (own_lt0 hown1 g hg).1)))
           | (refine step_app EI_edge rfl (.tmp 27) (.tmp 30) rfl (wr).heap.size v2 (0 + 0 + 1) _ rfl hown2 _ (es.length - 0) _ (pcells (es.drop 0)) rfl ?_ HL2.out (pcells_one _) ?_ ?_ ?_
              · first | exact HRD.out.below hb2 | exact HRD0.out.below hb2
              · omega
              · exact hb2.size
              intro v3 w3 hown3 hg3 hat3
              have hb3 : Below (wr).heap.size wr w3 := below_app hb2 hg3 hb2.size (fun g hg => (own_lt0 hown2 g hg).1)))
       all_goals go_wp2_with fail
       all_goals
         go_ret
         refine ⟨v3, rfl, own_cast hown3 (by have := hbW.size; have := hb.size; omega) (by omega) ?_, hfin _ (Below.trans hW0 (hb3.mono (by have := (hW0).size; omega)))⟩
         rw [putE, HK0.out, pcells_append]
         simp [pcells])
    | succ j =>
      obtain ⟨⟨x', y'⟩, hxy⟩ : ∃ e, es[j]? = some e := ⟨es[j], by simp⟩
      obtain ⟨b, o, rfl, hbl, e1, e2⟩ := (hr1.below hb).pair' j _ hxy
      have HXY := Lib.hid hxy
      clear hxy
      have HA := fun W => aheadE x y x' y' W
      rw [ahead_cmp] at HA
      have HK : Hid (putK es (x, y) (j + 1) = if ltE (x, y) (x', y') = true then putK es (x, y) j else j + 1) := by
        unfold Hid
        conv => lhs; unfold putK
        rw [HXY.out]
      unfold ltE at HK
      dsimp only at HK
      generalize decide (cmpE x y x' y' < 0) = cp at HA HK
      have hr2 := hr1.below hb
      cases cp with
      | true =>
        (go_wp2_with fail
         refine wp_quiet_tail 9 (by kernel_rfl) (by kernel_rfl) ?_
         simp only [List.take_succ_cons, List.take_zero, List.drop_succ_cons, List.drop_zero]
         repeat (go_big_quiet_step (fail))
         refine wpQuiet_nil ?_
         intro _ hw'
         obtain ⟨nq, hw''⟩ := hw'
         subst hw'')
        go_wp2_with (go_at_call 69; refine (HA _).mono ?_; rintro e w1 ⟨rfl, hb1⟩)
        go_roundw
        case rel => exact ⟨j, by omega, rfl, hok.out.trans HK.out, hb.trans (Below.trans (by (repeat (first | with_reducible exact Below.refl _ _ | with_reducible assumption | with_reducible refine below_drewN0 ?_ _ | with_reducible refine Below.drew ?_ | with_reducible refine Below.alloc ?_ ?_ _ | with_reducible refine Below.setCell ?_ ?_ _ | go_size | exact Below.size (by assumption)))) (hb1.mono (by simp; omega)))⟩
        case measure => simp [intOf]
      | false =>
        (go_wp2_with fail
         refine wp_quiet_tail 9 (by kernel_rfl) (by kernel_rfl) ?_
         simp only [List.take_succ_cons, List.take_zero, List.drop_succ_cons, List.drop_zero]
         repeat (go_big_quiet_step (fail))
         refine wpQuiet_nil ?_
         intro _ hw'
         obtain ⟨nq, hw''⟩ := hw'
         subst hw'')
        go_wp2_with (go_at_call 69; refine (HA _).mono ?_; rintro e wc ⟨rfl, hbc0⟩)
        have hbc : Below wr.heap.size wr wc := Below.trans (by (repeat (first | with_reducible exact Below.refl _ _ | with_reducible assumption | with_reducible refine below_drewN0 ?_ _ | with_reducible refine Below.drew ?_ | with_reducible refine Below.alloc ?_ ?_ _ | with_reducible refine Below.setCell ?_ ?_ _ | go_size | exact Below.size (by assumption)))) (hbc0.mono (by simp))
        have hrc := hr2.below hbc
        have hsc := hbc.size
        have hS : ∀ w', Below wc.heap.size wc w' → w'.cell? ⟨w.heap.size, 0, none⟩ = some (.int .i64 x) ∧ w'.cell? ⟨w.heap.size, 1, none⟩ = some (.int .i64 y) := fun w' h' => ⟨((h'.cell (p := ⟨w.heap.size, 0, none⟩) (Nat.lt_of_lt_of_le hgr hsc)).trans (hbc.cell (p := ⟨w.heap.size, 0, none⟩) hgr)).trans hg0', ((h'.cell (p := ⟨w.heap.size, 1, none⟩) (Nat.lt_of_lt_of_le hgr hsc)).trans (hbc.cell (p := ⟨w.heap.size, 1, none⟩) hgr)).trans hg1'⟩
        have HK0 : Hid (putK es (x, y) es.length = j + 1) := hok.out.trans HK.out
        have hW0 : Below W.heap.size wr wc := hbc.mono hWr
        clear hbc0 hr1 hr2 hg0' hg1' e1 e2 HA HK HXY hok
        have q0 : (0 : Int) ≤ (j : Int) + 1 := by omega
        have q1 : (j : Int) + 1 ≤ (c : Int) := by omega
        have q2 : (j : Int) + 1 ≤ (es.length : Int) := by omega
        have q3 : ((j : Int) + 1).toNat = j + 1 := by omega
        (have hlen := pcells_length es
         have hk1 : (j + 1) ≤ es.length := by omega
         have HS := Lib.hid hS
         have HRT : Hid (Reads wc (some (⟨b, o, none⟩ : Addr)) (pcells (es.take (j + 1)))) := by
           have := (hrc).cut c 0 (j + 1) 2 (Nat.zero_le _) (by rw [hlen]; omega) (by rw [hlen]; omega) (by omega)
           rw [pcells_take]
           by_cases hc0 : c = 0
           · have : pcells es = [] := List.eq_nil_of_length_eq_zero (by rw [hlen]; omega)
             exact .inl (by rw [this]; simp)
           · rw [if_neg hc0] at this
             simp only [Nat.zero_mul, List.drop_zero] at this
             rcases hrc with h | ⟨b9, o9, h9, _⟩
             · exact .inl (by rw [h]; simp)
             · rw [h9] at this ⊢
               rwa [show ((some (⟨b9, o9, none⟩ : Addr)).map (·.add 0)) = some ⟨b9, o9, none⟩ by simp [Addr.add]] at this
         have HRD : Hid (Reads wc (if c = (j + 1) then (some (⟨b, o, none⟩ : Addr)) else ((some (⟨b, o, none⟩ : Addr))).map (·.add ((j + 1) * 2))) (pcells (es.drop (j + 1)))) := by
           have := (hrc).cut c (j + 1) es.length 2 hk1 (by rw [hlen]; omega) (by rw [hlen]; omega) (by omega)
           rw [pcells_drop]
           rwa [List.take_of_length_le (by rw [hlen]; omega)] at this
         have HL1 : Hid ((pcells (es.take (j + 1))).length = (j + 1) * 2) := by unfold Hid; rw [pcells_length]; simp; try omega
         have HL2 : Hid ((pcells (es.drop (j + 1))).length = (es.length - (j + 1)) * 2) := by unfold Hid; rw [pcells_length]; simp; try omega
         have HRD0 : Hid (Reads wc (some (⟨b, o, none⟩ : Addr)) (pcells (es.drop 0))) := hrc
         clear hlen
         go_region_held3 (fun w' => w'.cell? ⟨w.heap.size, 0, none⟩ = some (.int .i64 x) ∧ w'.cell? ⟨w.heap.size, 1, none⟩ = some (.int .i64 y)) (first | exact HS.out _ hb3 | exact HS.out _ hb2 | exact HS.out _ hb1 | exact HS.out _ (Below.alloc hb1 hb1.size _) | (refine HS.out _ ?_; (repeat (first | with_reducible exact Below.refl _ _ | with_reducible assumption | with_reducible refine below_drewN0 ?_ _ | with_reducible refine Below.drew ?_ | with_reducible refine Below.alloc ?_ ?_ _ | with_reducible refine Below.setCell ?_ ?_ _ | go_size | exact Below.size (by assumption))); done))
           (first
             | (refine step_app EI_edge rfl (.const (.slice none 0 0)) (.tmp 23) rfl (wc).heap.size (.slice none 0 0) 0 [] rfl (own_nil0 _ _ _ _) _ (j + 1) _ (pcells (es.take (j + 1))) rfl ?_ HL1.out (pcells_one _) ?_ ?_ ?_
                · exact HRT.out.below (by (repeat (first | with_reducible exact Below.refl _ _ | with_reducible assumption | with_reducible refine below_drewN0 ?_ _ | with_reducible refine Below.drew ?_ | with_reducible refine Below.alloc ?_ ?_ _ | with_reducible refine Below.setCell ?_ ?_ _ | go_size | exact Below.size (by assumption))))
                · omega
                · go_size
                intro v1 w1 hown1 hg1 hat1
                have hb1 : Below (wc).heap.size wc w1 := below_app (by (repeat (first | with_reducible exact Below.refl _ _ | with_reducible assumption | with_reducible refine below_drewN0 ?_ _ | with_reducible refine Below.drew ?_ | with_reducible refine Below.alloc ?_ ?_ _ | with_reducible refine Below.setCell ?_ ?_ _ | go_size | exact Below.size (by assumption)))) hg1 (by go_size) (by simp [Value.ownBlock]))
             | (refine step_app EI_edge rfl (.tmp 24) (.tmp 26) rfl (wc).heap.size v1 (0 + (j + 1)) ([] ++ pcells (es.take (j + 1))) rfl ?_ (some ⟨_, 0, none⟩) 1 1 [.int .i64 x, .int .i64 y] rfl ?_ rfl ?_ ?_ ?_ ?_
                · first | exact hown1 | exact own_below0 hown1 (by (repeat (first | with_reducible exact Below.refl _ _ | with_reducible assumption | with_reducible refine below_drewN0 ?_ _ | with_reducible refine Below.drew ?_ | with_reducible refine Below.alloc ?_ ?_ _ | with_reducible refine Below.setCell ?_ ?_ _ | go_size | exact Below.size (by assumption))))
                · (first | exact reads_new _ [_, _] _ | (refine Reads.grown ?_ hg1 (by simp [Value.ownBlock]); exact reads_new _ [_, _] _))
                · simp [Value.oneCell']
                · omega
                · first | exact hb1.size | (have := hb1.size; go_size)
                intro v2 w2 hown2 hg2 hat2
                have hb2 : Below (wc).heap.size wc w2 := (by first | exact below_app hb1 hg2 hb1.size (fun g hg => (own_lt0 hown1 g hg).1) | exact below_app (Below.alloc hb1 hb1.size _) hg2 (by have := hb1.size; go_size) (fun g hg => (own_lt0 hown1 g hg).1)))
             | (refine step_app EI_edge rfl (.tmp 27) (.tmp 30) rfl (wc).heap.size v2 (0 + (j + 1) + 1) _ rfl hown2 _ (es.length - (j + 1)) _ (pcells (es.drop (j + 1))) rfl ?_ HL2.out (pcells_one _) ?_ ?_ ?_
                · first | exact HRD.out.below hb2 | exact HRD0.out.below hb2
                · omega
                · exact hb2.size
                intro v3 w3 hown3 hg3 hat3
                have hb3 : Below (wc).heap.size wc w3 := below_app hb2 hg3 hb2.size (fun g hg => (own_lt0 hown2 g hg).1)))
         all_goals go_wp2_with fail
         all_goals
           go_ret
           refine ⟨v3, rfl, own_cast hown3 (by have := hbW.size; have := hb.size; omega) (by omega) ?_, hfin _ (Below.trans hW0 (hb3.mono (by have := (hW0).size; omega)))⟩
           rw [putE, HK0.out, pcells_append]
           simp [pcells])

end Go.Proofs.Ytglhdoibglafbaa

/- The walk of Add, the document's answer. -/

namespace Go.Proofs.Ytglhdoibglafbaa
open Go Go.RowKit
set_option maxRecDepth 100000
set_option linter.unusedVariables false

/-- What Add leaves: a graph with an edge more, or why not. -/
def AddPost (n : Int) (es : List (Int × Int)) (a b : Int) (w : World) (e : Ending) (w' : World) : Prop :=
  (addErr n es a b ≠ 0 ∧ e = .returned (.tuple #[.agg #[.int .i64 0, .slice none 0 0], .int .i64 (addErr n es a b)]) ∧ Below w.heap.size w w') ∨
  (addErr n es a b = 0 ∧ ∃ v, e = .returned (.tuple #[.agg #[.int .i64 n, v], .int .i64 0]) ∧ w'.ownsRow w.heap.size 28 2 v (es.length + 1) (pcells (putE es (min a b, max a b))) ∧ Below w.heap.size w w')

theorem AddPost.err {n : Int} {es : List (Int × Int)} {a b : Int} {w w' : World} {e : Ending} (k : Int) (h : addErr n es a b = k) (hk : k ≠ 0) (he : e = .returned (.tuple #[.agg #[.int .i64 0, .slice none 0 0], .int .i64 k])) (hb : Below w.heap.size w w') : AddPost n es a b w e w' :=
  .inl ⟨by rw [h]; exact hk, by rw [h]; exact he, hb⟩

theorem put_slice (es : List (Int × Int)) (x y : Int) (A : Option Addr) (c : Nat) (w : World) (hr : Reads w A (pcells es)) (hc : es.length ≤ c) (hm : es.length ≤ 100000) :
    Calls Try.prog 89 #[.slice A es.length c, .agg #[.int .i64 x, .int .i64 y]] w fun e w' => ∃ A' c', e = .returned (.slice A' (es.length + 1) c') ∧ w'.ownsRow w.heap.size 28 2 (.slice A' (es.length + 1) c') (es.length + 1) (pcells (putE es (x, y))) ∧ Below w.heap.size w w' :=
  (put_any es x y A c w hr hc hm).mono fun e w' ⟨v, he, ho, hb⟩ => by
    obtain ⟨A', c', rfl, _⟩ := own_reads0 ho
    exact ⟨A', c', he, ho, hb⟩


set_option maxHeartbeats 2000000 in
theorem refAdd (n a b : Int) (es : List (Int × Int)) (A : Option Addr) (c : Nat) (w : World) (hr : Reads w A (pcells es)) (hc : es.length ≤ c) (hm : es.length ≤ 4611686018427387903) :
    Calls Try.prog 58 #[.agg #[.int .i64 n, .slice A es.length c], .int .i64 a, .int .i64 b] w (AddPost n es a b w) := by
  have HRt := fun W hR => refRight n es A c W hR hc hm
  have HIa : ∀ W, Calls Try.prog 88 #[.agg #[.int .i64 n, .slice A es.length c], .int .i64 a] W fun e w' => e = .returned (.bool (isB n a)) ∧ Below W.heap.size W w' := fun W => refIs_any n a A es.length c W
  have HIb : ∀ W, Calls Try.prog 88 #[.agg #[.int .i64 n, .slice A es.length c], .int .i64 b] W fun e w' => e = .returned (.bool (isB n b)) ∧ Below W.heap.size W w' := fun W => refIs_any n b A es.length c W
  have HH := fun W hR => refHas n a b es A c W hR hc hm
  have HE : addErr n es a b = if rightB n es = false then 3 else if isB n a = false then 4 else if isB n b = false then 4 else if a = b then 5 else if hasB n es a b = true then 6 else if 65536 ≤ es.length then 8 else 0 := rfl
  have HL : rightB n es = true → es.length ≤ 65536 := fun h => by unfold rightB at h; simp at h; omega
  generalize rightB n es = b1 at HRt HE HL
  generalize isB n a = b2 at HIa HE
  generalize isB n b = b3 at HIb HE
  generalize hasB n es a b = b4 at HH HE
  have HE1 := Lib.hid HE
  clear HE
  go_enter Try.func58, Try.ntmps58
  go_wp2_with fail
  generalize hW : (w.alloc (Obj.cells #[Value.int IntKind.i64 n, Value.slice A es.length c] 25)).alloc (Obj.cells #[Value.int IntKind.i64 0, Value.slice none 0 0] 25) = W
  have hbW : Below w.heap.size w W := by rw [← hW]; (repeat (first | with_reducible exact Below.refl _ _ | with_reducible assumption | with_reducible refine below_drewN0 ?_ _ | with_reducible refine Below.drew ?_ | with_reducible refine Below.alloc ?_ ?_ _ | with_reducible refine Below.setCell ?_ ?_ _ | go_size | exact Below.size (by assumption)))
  have hr1 := hr.below hbW
  have hA0 : W.heap[w.heap.size]? = some (.cells #[Value.int IntKind.i64 n, Value.slice A es.length c] 25 (0, 0)) := by rw [← hW]; exact heap_old (heap_alloc_new w _)
  have hR0 : W.heap[w.heap.size + 1]? = some (.cells #[Value.int IntKind.i64 0, Value.slice none 0 0] 25 (0, 0)) := by
    rw [← hW]
    have := heap_alloc_new (w.alloc (Obj.cells #[Value.int IntKind.i64 n, Value.slice A es.length c] 25)) (Obj.cells #[Value.int IntKind.i64 0, Value.slice none 0 0] 25)
    rwa [World.size_alloc] at this
  have hsz : W.heap.size = w.heap.size + 2 := by rw [← hW]; simp
  have HA := Lib.hid (fun w' (h : Below W.heap.size W w') => blk2 ((h.block w.heap.size (by omega)).trans hA0))
  have HR := Lib.hid (fun w' (h : Below W.heap.size W w') => blk2 ((h.block (w.heap.size + 1) (by omega)).trans hR0))
  clear hW hA0 hR0 hr
  cases b1 with
  | false =>
    go_wp2_with (first | (go_at_call 32; refine (HRt _ ?_).mono ?_; exact hr1; rintro e w1 ⟨rfl, hb1⟩; obtain ⟨a0, a1, a2, a3, a4⟩ := HA.out _ hb1; obtain ⟨r0, r1, r2, r3, r4⟩ := HR.out _ hb1))
    refine bodyPost_ret (v := .tuple #[.agg #[.int .i64 0, .slice none 0 0], .int .i64 3]) (by simp [results, Try.results58, go_sem, r0, r1]) rfl ?_
    exact .err 3 (by simpa using HE1.out) (by omega) rfl (hbW.trans (Below.trans (hb1.mono (by omega)) (by (repeat (first | with_reducible exact Below.refl _ _ | with_reducible assumption | with_reducible refine below_drewN0 ?_ _ | with_reducible refine Below.drew ?_ | with_reducible refine Below.alloc ?_ ?_ _ | with_reducible refine Below.setCell ?_ ?_ _ | go_size | exact Below.size (by assumption))))))
  | true =>
  cases b2 with
  | false =>
    go_wp2_with (first | (go_at_call 32; refine (HRt _ ?_).mono ?_; exact hr1; rintro e w1 ⟨rfl, hb1⟩; obtain ⟨a0, a1, a2, a3, a4⟩ := HA.out _ hb1; obtain ⟨r0, r1, r2, r3, r4⟩ := HR.out _ hb1) | (go_at_call 88; (with_reducible refine (HIa _).mono ?_); rintro e w2 ⟨rfl, hb2⟩; have hB2 := hb1.trans (hb2.mono hb1.size); obtain ⟨b0, b1, b2, b3, b4⟩ := HA.out _ hB2; obtain ⟨s0, s1, s2, s3, s4⟩ := HR.out _ hB2))
    refine bodyPost_ret (v := .tuple #[.agg #[.int .i64 0, .slice none 0 0], .int .i64 4]) (by simp [results, Try.results58, go_sem, s0, s1]) rfl ?_
    exact .err 4 (by simpa using HE1.out) (by omega) rfl (hbW.trans (Below.trans (hB2.mono (by omega)) (by (repeat (first | with_reducible exact Below.refl _ _ | with_reducible assumption | with_reducible refine below_drewN0 ?_ _ | with_reducible refine Below.drew ?_ | with_reducible refine Below.alloc ?_ ?_ _ | with_reducible refine Below.setCell ?_ ?_ _ | go_size | exact Below.size (by assumption))))))
  | true =>
  cases b3 with
  | false =>
    go_wp2_with (first | (go_at_call 32; refine (HRt _ ?_).mono ?_; exact hr1; rintro e w1 ⟨rfl, hb1⟩; obtain ⟨a0, a1, a2, a3, a4⟩ := HA.out _ hb1; obtain ⟨r0, r1, r2, r3, r4⟩ := HR.out _ hb1) | (go_at_call 88; (with_reducible refine (HIb _).mono ?_); rintro e w3 ⟨rfl, hb3⟩; have hB3 := hB2.trans (hb3.mono hB2.size); obtain ⟨c0, c1, c2, c3, c4⟩ := HA.out _ hB3; obtain ⟨t0, t1, t2, t3, t4⟩ := HR.out _ hB3) | (go_at_call 88; (with_reducible refine (HIa _).mono ?_); rintro e w2 ⟨rfl, hb2⟩; have hB2 := hb1.trans (hb2.mono hb1.size); obtain ⟨b0, b1, b2, b3, b4⟩ := HA.out _ hB2; obtain ⟨s0, s1, s2, s3, s4⟩ := HR.out _ hB2))
    refine bodyPost_ret (v := .tuple #[.agg #[.int .i64 0, .slice none 0 0], .int .i64 4]) (by simp [results, Try.results58, go_sem, t0, t1]) rfl ?_
    exact .err 4 (by simpa using HE1.out) (by omega) rfl (hbW.trans (Below.trans (hB3.mono (by omega)) (by (repeat (first | with_reducible exact Below.refl _ _ | with_reducible assumption | with_reducible refine below_drewN0 ?_ _ | with_reducible refine Below.drew ?_ | with_reducible refine Below.alloc ?_ ?_ _ | with_reducible refine Below.setCell ?_ ?_ _ | go_size | exact Below.size (by assumption))))))
  | true =>
  by_cases hab : a = b
  · have hab' : (a == b) = true := by simpa using hab
    have HE2 : Hid (addErr n es a b = 5) := by have := HE1.out; unfold Hid; simpa [hab] using this
    clear hab
    go_wp2_with (first | (go_at_call 32; refine (HRt _ ?_).mono ?_; exact hr1; rintro e w1 ⟨rfl, hb1⟩; obtain ⟨a0, a1, a2, a3, a4⟩ := HA.out _ hb1; obtain ⟨r0, r1, r2, r3, r4⟩ := HR.out _ hb1) | (go_at_call 88; (with_reducible refine (HIb _).mono ?_); rintro e w3 ⟨rfl, hb3⟩; have hB3 := hB2.trans (hb3.mono hB2.size); obtain ⟨c0, c1, c2, c3, c4⟩ := HA.out _ hB3; obtain ⟨t0, t1, t2, t3, t4⟩ := HR.out _ hB3) | (go_at_call 88; (with_reducible refine (HIa _).mono ?_); rintro e w2 ⟨rfl, hb2⟩; have hB2 := hb1.trans (hb2.mono hb1.size); obtain ⟨b0, b1, b2, b3, b4⟩ := HA.out _ hB2; obtain ⟨s0, s1, s2, s3, s4⟩ := HR.out _ hB2))
    refine bodyPost_ret (v := .tuple #[.agg #[.int .i64 0, .slice none 0 0], .int .i64 5]) (by simp [results, Try.results58, go_sem, t0, t1]) rfl ?_
    exact .err 5 HE2.out (by omega) rfl (hbW.trans (Below.trans (hB3.mono (by omega)) (by (repeat (first | with_reducible exact Below.refl _ _ | with_reducible assumption | with_reducible refine below_drewN0 ?_ _ | with_reducible refine Below.drew ?_ | with_reducible refine Below.alloc ?_ ?_ _ | with_reducible refine Below.setCell ?_ ?_ _ | go_size | exact Below.size (by assumption))))))
  have hab' : (a == b) = false := by simpa using hab
  cases b4 with
  | true =>
    have HE2 : Hid (addErr n es a b = 6) := by have := HE1.out; unfold Hid; simpa [hab] using this
    go_wp2_with (first | (go_at_call 32; refine (HRt _ ?_).mono ?_; exact hr1; rintro e w1 ⟨rfl, hb1⟩; obtain ⟨a0, a1, a2, a3, a4⟩ := HA.out _ hb1; obtain ⟨r0, r1, r2, r3, r4⟩ := HR.out _ hb1) | (go_at_call 88; (with_reducible refine (HIb _).mono ?_); rintro e w3 ⟨rfl, hb3⟩; have hB3 := hB2.trans (hb3.mono hB2.size); obtain ⟨c0, c1, c2, c3, c4⟩ := HA.out _ hB3; obtain ⟨t0, t1, t2, t3, t4⟩ := HR.out _ hB3) | (go_at_call 88; (with_reducible refine (HIa _).mono ?_); rintro e w2 ⟨rfl, hb2⟩; have hB2 := hb1.trans (hb2.mono hb1.size); obtain ⟨b0, b1, b2, b3, b4⟩ := HA.out _ hB2; obtain ⟨s0, s1, s2, s3, s4⟩ := HR.out _ hB2) | (go_at_call 34; refine (HH _ ?_).mono ?_; exact hr1.below hB3; rintro e w4 ⟨rfl, hb4⟩; have hB4 := hB3.trans (hb4.mono hB3.size); obtain ⟨d0, d1, d2, d3, d4⟩ := HA.out _ hB4; obtain ⟨u0, u1, u2, u3, u4⟩ := HR.out _ hB4))
    refine bodyPost_ret (v := .tuple #[.agg #[.int .i64 0, .slice none 0 0], .int .i64 6]) (by simp [results, Try.results58, go_sem, u0, u1]) rfl ?_
    exact .err 6 HE2.out (by omega) rfl (hbW.trans (Below.trans (hB4.mono (by omega)) (by (repeat (first | with_reducible exact Below.refl _ _ | with_reducible assumption | with_reducible refine below_drewN0 ?_ _ | with_reducible refine Below.drew ?_ | with_reducible refine Below.alloc ?_ ?_ _ | with_reducible refine Below.setCell ?_ ?_ _ | go_size | exact Below.size (by assumption))))))
  | false =>
  have hl := HL rfl
  by_cases h6 : es.length = 65536
  · have HE2 : Hid (addErr n es a b = 8) := by have := HE1.out; unfold Hid; simpa [hab, h6] using this
    have h6' : decide ((65536 : Int) ≤ (es.length : Int)) = true := decide_eq_true (by omega)
    have h6'' := Lib.hid h6
    clear h6
    go_wp2_with (first | (go_at_call 32; refine (HRt _ ?_).mono ?_; exact hr1; rintro e w1 ⟨rfl, hb1⟩; obtain ⟨a0, a1, a2, a3, a4⟩ := HA.out _ hb1; obtain ⟨r0, r1, r2, r3, r4⟩ := HR.out _ hb1) | (go_at_call 88; (with_reducible refine (HIb _).mono ?_); rintro e w3 ⟨rfl, hb3⟩; have hB3 := hB2.trans (hb3.mono hB2.size); obtain ⟨c0, c1, c2, c3, c4⟩ := HA.out _ hB3; obtain ⟨t0, t1, t2, t3, t4⟩ := HR.out _ hB3) | (go_at_call 88; (with_reducible refine (HIa _).mono ?_); rintro e w2 ⟨rfl, hb2⟩; have hB2 := hb1.trans (hb2.mono hb1.size); obtain ⟨b0, b1, b2, b3, b4⟩ := HA.out _ hB2; obtain ⟨s0, s1, s2, s3, s4⟩ := HR.out _ hB2) | (go_at_call 34; refine (HH _ ?_).mono ?_; exact hr1.below hB3; rintro e w4 ⟨rfl, hb4⟩; have hB4 := hB3.trans (hb4.mono hB3.size); obtain ⟨d0, d1, d2, d3, d4⟩ := HA.out _ hB4; obtain ⟨u0, u1, u2, u3, u4⟩ := HR.out _ hB4))
    refine bodyPost_ret (v := .tuple #[.agg #[.int .i64 0, .slice none 0 0], .int .i64 8]) (by simp [results, Try.results58, go_sem, u0, u1]) rfl ?_
    exact .err 8 HE2.out (by omega) rfl (hbW.trans (Below.trans (hB4.mono (by omega)) (by (repeat (first | with_reducible exact Below.refl _ _ | with_reducible assumption | with_reducible refine below_drewN0 ?_ _ | with_reducible refine Below.drew ?_ | with_reducible refine Below.alloc ?_ ?_ _ | with_reducible refine Below.setCell ?_ ?_ _ | go_size | exact Below.size (by assumption))))))
  · have HE2 : Hid (addErr n es a b = 0) := by have := HE1.out; rw [if_neg (by simp), if_neg (by simp), if_neg (by simp), if_neg hab, if_neg (by simp), if_neg (by omega)] at this; exact this
    have h6' : decide ((65536 : Int) ≤ (es.length : Int)) = false := decide_eq_false (by omega)
    go_wp2_with (first | (go_at_call 32; refine (HRt _ ?_).mono ?_; exact hr1; rintro e w1 ⟨rfl, hb1⟩; obtain ⟨a0, a1, a2, a3, a4⟩ := HA.out _ hb1; obtain ⟨r0, r1, r2, r3, r4⟩ := HR.out _ hb1) | (go_at_call 88; (with_reducible refine (HIb _).mono ?_); rintro e w3 ⟨rfl, hb3⟩; have hB3 := hB2.trans (hb3.mono hB2.size); obtain ⟨c0, c1, c2, c3, c4⟩ := HA.out _ hB3; obtain ⟨t0, t1, t2, t3, t4⟩ := HR.out _ hB3) | (go_at_call 88; (with_reducible refine (HIa _).mono ?_); rintro e w2 ⟨rfl, hb2⟩; have hB2 := hb1.trans (hb2.mono hb1.size); obtain ⟨b0, b1, b2, b3, b4⟩ := HA.out _ hB2; obtain ⟨s0, s1, s2, s3, s4⟩ := HR.out _ hB2) | (go_at_call 34; refine (HH _ ?_).mono ?_; exact hr1.below hB3; rintro e w4 ⟨rfl, hb4⟩; have hB4 := hB3.trans (hb4.mono hB3.size); obtain ⟨d0, d1, d2, d3, d4⟩ := HA.out _ hB4; obtain ⟨u0, u1, u2, u3, u4⟩ := HR.out _ hB4))
    have hr4 := hr1.below hB4
    have HT := fun W => turned_any a b W
    obtain ⟨x, hx⟩ : ∃ x, x = min a b := ⟨_, rfl⟩
    obtain ⟨y, hy⟩ : ∃ y, y = max a b := ⟨_, rfl⟩
    rw [← hx, ← hy] at HT
    have HX := Lib.hid hx
    have HY := Lib.hid hy
    clear hx hy
    go_region_held3 (fun w' => w'.cell? ⟨w.heap.size, 0, none⟩ = some (.int .i64 n) ∧ w'.cell? ⟨w.heap.size, 1, none⟩ = some (.slice A es.length c)) (first | exact ⟨f0, f1⟩ | exact ⟨e0, e1⟩ | exact ⟨d0, d1⟩ | (simp [go_sem, *]; done))
      (first
        | (go_at_call 71; refine (HT _).mono ?_; rintro e w5 ⟨rfl, hb5⟩; have hB5 : Below W.heap.size W w5 := Below.trans (by (repeat (first | with_reducible exact Below.refl _ _ | with_reducible assumption | with_reducible refine below_drewN0 ?_ _ | with_reducible refine Below.drew ?_ | with_reducible refine Below.alloc ?_ ?_ _ | with_reducible refine Below.setCell ?_ ?_ _ | go_size | exact Below.size (by assumption)))) (hb5.mono (by have := hB4.size; go_size)); obtain ⟨e0, e1, e2, e3, e4⟩ := HA.out _ hB5; obtain ⟨y0, y1, y2, y3, y4⟩ := HR.out _ hB5)
        | (go_at_call 89; refine (put_slice es x y A c _ (hr1.below hB5) hc (by omega)).mono ?_; rintro e w6 ⟨A6, c6, rfl, ho6, hb6⟩; have hB6 : Below W.heap.size W w6 := Below.trans (by (repeat (first | with_reducible exact Below.refl _ _ | with_reducible assumption | with_reducible refine below_drewN0 ?_ _ | with_reducible refine Below.drew ?_ | with_reducible refine Below.alloc ?_ ?_ _ | with_reducible refine Below.setCell ?_ ?_ _ | go_size | exact Below.size (by assumption)))) (hb6.mono (by have := hB5.size; go_size)); obtain ⟨f0, f1, f2, f3, f4⟩ := HA.out _ hB6; obtain ⟨z0, z1, z2, z3, z4⟩ := HR.out _ hB6))
    go_wp2_with fail
    refine bodyPost_ret (v := .tuple #[.agg #[.int .i64 n, .slice A6 (es.length + 1) c6], .int .i64 0]) (by simp [results, Try.results58, go_sem, z0, z1]) rfl ?_
    refine .inr ⟨HE2.out, _, rfl, ?_, hbW.trans (Below.trans (hB6.mono (by omega)) (by (repeat (first | with_reducible exact Below.refl _ _ | with_reducible assumption | with_reducible refine below_drewN0 ?_ _ | with_reducible refine Below.drew ?_ | with_reducible refine Below.alloc ?_ ?_ _ | with_reducible refine Below.setCell ?_ ?_ _ | go_size | exact Below.size (by assumption)))))⟩
    have h5 := hB5.size
    rw [← HX.out, ← HY.out]
    exact own_cast (own_set (own_set ho6 (by dsimp only; omega) _) (by dsimp only; omega) _) (by omega) rfl rfl
end Go.Proofs.Ytglhdoibglafbaa
