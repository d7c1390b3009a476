/- Walk of the document's Edges of a gadget. -/
import Derived.Test.YtglhdoibglafbaaMGadgetTells7
namespace Go.Proofs.Ytglhdoibglafbaa
open Go Go.RowKit
set_option maxRecDepth 100000
set_option linter.unusedVariables false

theorem heap_set1v {w : World} {g : Nat} {a b : Value} {T : TypeId} (h : w.heap[g]? = some (.cells #[a, b] T (0, 0))) (y : Value) : (w.setCell ⟨g, 1, none⟩ y).heap[g]? = some (.cells #[a, y] T (0, 0)) := by
  simp [World.setCell, Array.getElem?_modify, h]
set_option maxHeartbeats 8000000 in
theorem refEdges_ok (m : Nat) (es : List (Int × Int)) (f : List Int) (pl : List Pl) (A Af : Option Addr) (c cf : Nat) (w : World) (hr : Reads w A (pcells es)) (hrf : Reads w Af (icells f)) (hR : RightP m es)
    (HPL : ∀ (a : Nat) (x : Pl), pl[a]? = some x → 0 ≤ x.1 ∧ x.1 < (m : Int) ∧ 0 ≤ x.2.1 ∧ (x.2.2 = false → x.2.1.toNat < (nearL es x.1).length)) (hpm : pl.length ≤ 65536) (hrm : ∀ a b, a < pl.length → b ≤ pl.length → (rfL es pl a).length + (rfR es pl a b).length ≤ 90000)
    (HN : ∀ v W, Reads W A (pcells es) → Calls Try.prog 39 #[.agg #[.int .i64 (m : Int), .slice A es.length c], .int .i64 v] W (RowPost (nearL es v) W))
    (HP : ∀ W, Reads W A (pcells es) → Reads W Af (icells f) → Calls Try.prog 47 #[.agg #[.int .i64 (m : Int), .slice A es.length c], .slice Af f.length cf] W fun e w' => ∃ Ap cp, e = .returned (.tuple #[.slice Ap pl.length cp, .int .i64 0]) ∧ pl.length ≤ cp ∧ Reads w' Ap (plcells pl) ∧ Below W.heap.size W w') :
    Calls Try.prog 49 #[.agg #[.int .i64 (m : Int), .slice A es.length c], .slice Af f.length cf] w (EdPost (rfL es pl pl.length) w) := by
  have hm1 := hR.n1
  go_enter Try.func49, Try.ntmps49
  go_upto_region 4 with (first
    | (go_at_call 47; go_loud (
        refine (HP _ (hr.below ?_) (hrf.below ?_)).mono ?_
        · (repeat (first | with_reducible exact Below.refl _ _ | with_reducible assumption | with_reducible refine below_drewN0 ?_ _ | with_reducible refine Below.drew ?_ | with_reducible refine Below.alloc ?_ ?_ _ | with_reducible refine Below.setCell ?_ ?_ _ | go_size | exact Below.size (by assumption)))
        · (repeat (first | with_reducible exact Below.refl _ _ | with_reducible assumption | with_reducible refine below_drewN0 ?_ _ | with_reducible refine Below.drew ?_ | with_reducible refine Below.alloc ?_ ?_ _ | with_reducible refine Below.setCell ?_ ?_ _ | go_size | exact Below.size (by assumption)))
        rintro e w1 ⟨Ap, cp, rfl, hcp, hrp, hb1⟩
        obtain ⟨q0, q1, q2, q3, q4⟩ := blk2 ((hb1.block w.heap.size (by simp)).trans (heap_alloc_new _ _))
        have hbw : Below w.heap.size w w1 := Below.trans (by (repeat (first | with_reducible exact Below.refl _ _ | with_reducible assumption | with_reducible refine below_drewN0 ?_ _ | with_reducible refine Below.drew ?_ | with_reducible refine Below.alloc ?_ ?_ _ | with_reducible refine Below.setCell ?_ ?_ _ | go_size | exact Below.size (by assumption)))) (hb1.mono (by simp)))))
  have HG := Lib.hid (fun (W : World) (h : Below w1.heap.size w1 W) => (⟨(h.cell (p := ⟨w.heap.size, 0, none⟩) q4).trans q0, (h.cell (p := ⟨w.heap.size, 1, none⟩) q4).trans q1⟩ : W.cell? ⟨w.heap.size, 0, none⟩ = some (.int .i64 (m : Int)) ∧ W.cell? ⟨w.heap.size, 1, none⟩ = some (.slice A es.length c)))
  have hr1 := hr.below hbw
  clear q0 q1 q2 q3 q4 hb1 hr hrf HP
  have HR := Lib.hid hrp
  have HM := Lib.hid hrm
  have HPLh := Lib.hid HPL
  clear hrp hrm HPL
  go_upto_region 6 with fail
  have hQ0 := heap_alloc_new w1 (Obj.cells #[Value.int .i64 (pl.length : Int), Value.slice none 0 0] 25)
  have hb2 : Below w1.heap.size w1 (w1.alloc (Obj.cells #[Value.int .i64 (pl.length : Int), Value.slice none 0 0] 25)) := by (repeat (first | with_reducible exact Below.refl _ _ | with_reducible assumption | with_reducible refine below_drewN0 ?_ _ | with_reducible refine Below.drew ?_ | with_reducible refine Below.alloc ?_ ?_ _ | with_reducible refine Below.setCell ?_ ?_ _ | go_size | exact Below.size (by assumption)))
  generalize w1.alloc (Obj.cells #[Value.int .i64 (pl.length : Int), Value.slice none 0 0] 25) = w2 at *
  have hql := heap_lt0 hQ0
  have hw1 := hbw.size
  go_loopw [9] (fun i wx => ∃ (a : Nat) (v : Value), a ≤ pl.length ∧ i = .int .i64 a ∧ Hid (wx.heap[w1.heap.size]? = some (.cells #[Value.int .i64 (pl.length : Int), v] 25 (0, 0))) ∧ Hid (wx.ownsRow (w1.heap.size + 1) 28 2 v (rfL es pl a).length (pcells (rfL es pl a))) ∧ Below w1.heap.size w1 wx) (fun i _ => pl.length - (intOf i).toNat)
  case atStart => exact ⟨0, _, Nat.zero_le _, rfl, hQ0, own_nil0 _ _ _ _, hb2⟩
  case round =>
    clear hQ0 hb2 hql
    clear w2
    obtain ⟨a, v, ha, rfl, hQ, ho, hb⟩ := hrel
    by_cases hal : a < pl.length
    · have aI : (a : Int) < (pl.length : Int) := by omega
      go_upto_region 9 with fail
      go_loopw [10] (fun i wx => ∃ (b : Nat) (v : Value), a < b ∧ b ≤ pl.length ∧ i = .int .i64 b ∧ Hid (wx.heap[w1.heap.size]? = some (.cells #[Value.int .i64 (pl.length : Int), v] 25 (0, 0))) ∧ Hid (wx.ownsRow (w1.heap.size + 1) 28 2 v (rfL es pl a ++ rfR es pl a b).length (pcells (rfL es pl a ++ rfR es pl a b))) ∧ Below w1.heap.size w1 wx) (fun i _ => pl.length - (intOf i).toNat)
      case atStart => exact ⟨a + 1, v, by omega, by omega, by go_num, hQ, by rw [rfR_low es pl a (a + 1) (Nat.le_refl _), List.append_nil]; exact ho, hb⟩
      case round =>
        clear hQ ho hb
        obtain ⟨b, v, hab, hbl, rfl, hQ, ho, hb⟩ := hrel
        by_cases hbb : b < pl.length
        · have bI : (b : Int) < (pl.length : Int) := by omega
          obtain ⟨⟨xv, xn, xc⟩, hx⟩ : ∃ e, pl[a]? = some e := ⟨pl[a], by simp [hal]⟩
          obtain ⟨⟨yv, yn, yc⟩, hy⟩ : ∃ e, pl[b]? = some e := ⟨pl[b], by simp [hbb]⟩
          obtain ⟨bp, op, rfl, hpl, e0, e1, e2⟩ := (HR.out.below hb).pl' a _ hx
          obtain ⟨bp', op', he, _, f0, f1, f2⟩ := (HR.out.below hb).pl' b _ hy
          cases he
          dsimp only at e0 e1 e2 f0 f1 f2
          have hrS := rfR_succ es pl a b
          have hax : atP pl a = (xv, xn, xc) := by unfold atP; rw [hx]; rfl
          have hay : atP pl b = (yv, yn, yc) := by unfold atP; rw [hy]; rfl
          rw [hax, hay] at hrS
          have HS := Lib.hid hrS
          obtain ⟨x0, x1, x2, x3⟩ := HPLh.out a _ hx
          obtain ⟨y0, y1, y2, y3⟩ := HPLh.out b _ hy
          dsimp only at x0 x1 x2 x3 y0 y1 y2 y3
          have X3 := Lib.hid x3
          have Y3 := Lib.hid y3
          clear hx hy hax hay hrS x3 y3
          have hwr := Lib.hid (fun (W : World) (h : Below wr.heap.size wr W) => (⟨(h.cell (p := ⟨bp, op + a * 3, none⟩) hpl).trans e0, (h.cell (p := ⟨bp, op + a * 3 + 1, none⟩) hpl).trans e1, (h.cell (p := ⟨bp, op + a * 3 + 2, none⟩) hpl).trans e2, (h.cell (p := ⟨bp, op + b * 3, none⟩) hpl).trans f0, (h.cell (p := ⟨bp, op + b * 3 + 1, none⟩) hpl).trans f1, (h.cell (p := ⟨bp, op + b * 3 + 2, none⟩) hpl).trans f2⟩ :
            W.cell? ⟨bp, op + a * 3, none⟩ = some (.int .i64 xv) ∧ W.cell? ⟨bp, op + a * 3 + 1, none⟩ = some (.int .i64 xn) ∧ W.cell? ⟨bp, op + a * 3 + 2, none⟩ = some (.bool xc) ∧ W.cell? ⟨bp, op + b * 3, none⟩ = some (.int .i64 yv) ∧ W.cell? ⟨bp, op + b * 3 + 1, none⟩ = some (.int .i64 yn) ∧ W.cell? ⟨bp, op + b * 3 + 2, none⟩ = some (.bool yc)))
          have hS0 := hwr.out wr (Below.refl _ _)
          go_upto_region 11 with fail
          go_cut [11, 12] (fun v11 v12 wc => ∃ (X Y : Nat), v11 = .pointer (some ⟨X, 0, none⟩) ∧ v12 = .pointer (some ⟨Y, 0, none⟩) ∧ wc.cell? ⟨X, 0, none⟩ = some (.int .i64 xv) ∧ wc.cell? ⟨X, 1, none⟩ = some (.int .i64 xn) ∧ wc.cell? ⟨X, 2, none⟩ = some (.bool xc) ∧ wc.cell? ⟨Y, 0, none⟩ = some (.int .i64 yv) ∧ wc.cell? ⟨Y, 1, none⟩ = some (.int .i64 yn) ∧ wc.cell? ⟨Y, 2, none⟩ = some (.bool yc) ∧ X < wc.heap.size ∧ Y < wc.heap.size ∧ Below wr.heap.size wr wc)
          case first =>
            go_region_held3 (fun w' => w'.cell? ⟨bp, op + a * 3, none⟩ = some (.int .i64 xv) ∧ w'.cell? ⟨bp, op + a * 3 + 1, none⟩ = some (.int .i64 xn) ∧ w'.cell? ⟨bp, op + a * 3 + 2, none⟩ = some (.bool xc) ∧ w'.cell? ⟨bp, op + b * 3, none⟩ = some (.int .i64 yv) ∧ w'.cell? ⟨bp, op + b * 3 + 1, none⟩ = some (.int .i64 yn) ∧ w'.cell? ⟨bp, op + b * 3 + 2, none⟩ = some (.bool yc))
              (first | exact hS0 | (refine hwr.out _ ?_; (repeat (first | with_reducible exact Below.refl _ _ | with_reducible assumption | with_reducible refine below_drewN0 ?_ _ | with_reducible refine Below.drew ?_ | with_reducible refine Below.alloc ?_ ?_ _ | with_reducible refine Below.setCell ?_ ?_ _ | go_size | exact Below.size (by assumption))); done)) (fail)
            · go_wp2_with fail
              go_meet
              have h1 : (wr.alloc (Obj.cells #[Value.int .i64 xv, Value.int .i64 xn, Value.bool xc] 70)).heap[wr.heap.size]? = some (.cells #[Value.int .i64 xv, Value.int .i64 xn, Value.bool xc] 70 (0, 0)) := heap_alloc_new _ _
              have h2 := heap_old (o' := Obj.cells #[Value.int .i64 yv, Value.int .i64 yn, Value.bool yc] 70) h1
              have h3 := heap_alloc_new (wr.alloc (Obj.cells #[Value.int .i64 xv, Value.int .i64 xn, Value.bool xc] 70)) (Obj.cells #[Value.int .i64 yv, Value.int .i64 yn, Value.bool yc] 70)
              rw [World.size_alloc] at h3
              exact ⟨_, _, rfl, rfl, blkc h2 0 _ rfl, blkc h2 1 _ rfl, blkc h2 2 _ rfl, blkc h3 0 _ rfl, blkc h3 1 _ rfl, blkc h3 2 _ rfl, by go_size, by go_size, by (repeat (first | with_reducible exact Below.refl _ _ | with_reducible assumption | with_reducible refine below_drewN0 ?_ _ | with_reducible refine Below.drew ?_ | with_reducible refine Below.alloc ?_ ?_ _ | with_reducible refine Below.setCell ?_ ?_ _ | go_size | exact Below.size (by assumption)))⟩
            · go_wp2_with fail
              go_meet
              have h1 : (wr.alloc (Obj.cells #[Value.int .i64 yv, Value.int .i64 yn, Value.bool yc] 70)).heap[wr.heap.size]? = some (.cells #[Value.int .i64 yv, Value.int .i64 yn, Value.bool yc] 70 (0, 0)) := heap_alloc_new _ _
              have h2 := heap_old (o' := Obj.cells #[Value.int .i64 xv, Value.int .i64 xn, Value.bool xc] 70) h1
              have h3 := heap_alloc_new (wr.alloc (Obj.cells #[Value.int .i64 yv, Value.int .i64 yn, Value.bool yc] 70)) (Obj.cells #[Value.int .i64 xv, Value.int .i64 xn, Value.bool xc] 70)
              rw [World.size_alloc] at h3
              exact ⟨_, _, rfl, rfl, blkc h3 0 _ rfl, blkc h3 1 _ rfl, blkc h3 2 _ rfl, blkc h2 0 _ rfl, blkc h2 1 _ rfl, blkc h2 2 _ rfl, by go_size, by go_size, by (repeat (first | with_reducible exact Below.refl _ _ | with_reducible assumption | with_reducible refine below_drewN0 ?_ _ | with_reducible refine Below.drew ?_ | with_reducible refine Below.alloc ?_ ?_ _ | with_reducible refine Below.setCell ?_ ?_ _ | go_size | exact Below.size (by assumption)))⟩
          case rest =>
            obtain ⟨X, Y, rfl, rfl, c0, c1, c2, d0, d1, d2, hX, hY, hbc⟩ := hcut
            clear e0 e1 e2 f0 f1 f2 hwr hS0 hpl
            have hwrs := hb.size
            have hbx : Below w1.heap.size w1 wc := hb.trans (hbc.mono hwrs)
            have hQl := heap_lt0 hQ.out
            have hQc := Lib.hid (fun (W : World) (h : Below wr.heap.size wr W) => (h.block w1.heap.size hQl).trans hQ.out)
            have hoc := Lib.hid (fun (W : World) (h : Below wr.heap.size wr W) => own_below0 ho.out h)
            have hMM := HM.out a (b + 1) hal (by omega)
            clear hQ ho
            by_cases hv : xv = yv
            · subst hv
              cases xc
              · cases yc
                · have hj : joinB es (xv, xn, false) (xv, yn, false) = false := by simp [joinB]
                  (go_wp2_with fail
                   go_roundw
                   case rel =>
                     refine ⟨b + 1, v, by omega, by omega, by go_num, hQc.out _ hbc, ?_, hb.trans ((hbc).mono hwrs)⟩
                     rw [HS.out, if_neg (by rw [hj]; simp)]
                     exact hoc.out _ hbc
                   case measure => simp [intOf]; omega)
                · have hj : joinB es (xv, xn, false) (xv, yn, true) = true := by simp [joinB]
                  (have hLl : (rfL es pl a ++ rfR es pl a (b + 1)).length = (rfL es pl a ++ rfR es pl a b).length + 1 := by rw [HS.out, if_pos ⟨hab, hj⟩]; simp [← List.append_assoc]
                   have hLe : Hid (rfL es pl a ++ rfR es pl a (b + 1) = (rfL es pl a ++ rfR es pl a b) ++ [((a : Int), (b : Int))]) := by unfold Hid; rw [HS.out, if_pos ⟨hab, hj⟩, List.append_assoc]
                   have hLb : (rfL es pl a ++ rfR es pl a b).length + 1 ≤ 90000 := by rw [List.length_append] at hLl; omega
                   have HLl := Lib.hid hLl
                   clear hLl
                   obtain ⟨k0, k1, k2, k3, k4⟩ := blk2 (hQc.out _ hbc)
                   have hoW := Lib.hid (hoc.out _ hbc)
                   have hWs := Nat.lt_of_lt_of_le hQl (hbc).size
                   have hQW := Lib.hid (hQc.out _ hbc)
                   have hbW : Below w1.heap.size w1 wc := hb.trans ((hbc).mono hwrs)
                   generalize rfL es pl a ++ rfR es pl a b = M at *
                   go_wp2_with (first
                    | (at_builtin; go_loud (
                       refine wpList_app EI_edge rfl (.tmp 105) (.tmp 109) rfl (w1.heap.size + 1) v M.length (pcells M) rfl ?_ (some ⟨_, 0, none⟩) 1 1 [.int .i64 (a : Int), .int .i64 (b : Int)] rfl ?_ rfl (by simp [Value.oneCell']) ?_ ?_ ?_
                       · exact own_below0 hoW.out (by (repeat (first | with_reducible exact Below.refl _ _ | with_reducible assumption | with_reducible refine below_drewN0 ?_ _ | with_reducible refine Below.drew ?_ | with_reducible refine Below.alloc ?_ ?_ _ | with_reducible refine Below.setCell ?_ ?_ _ | go_size | exact Below.size (by assumption))))
                       · exact reads_new _ [_, _] _
                       · omega
                       · go_size
                       intro v6 w6 hown6 hg6 hat6
                       have hne : some w1.heap.size ≠ v.ownBlock := (fun hx => by have h9 := own_lt0 hoW.out _ hx.symm; omega)
                       have hQ6 := Lib.hid ((hg6.block w1.heap.size (by go_size) hne).trans (heap_old (o' := (Obj.cells #[Value.int .i64 (a : Int), Value.int .i64 (b : Int)] 28)) hQW.out))
                       obtain ⟨l0, l1, l2, l3, l4⟩ := blk2 hQ6.out
                       have hb6 : Below w1.heap.size w1 w6 := below_app (by (repeat (first | with_reducible exact Below.refl _ _ | with_reducible assumption | with_reducible refine below_drewN0 ?_ _ | with_reducible refine Below.drew ?_ | with_reducible refine Below.alloc ?_ ?_ _ | with_reducible refine Below.setCell ?_ ?_ _ | go_size | exact Below.size (by assumption)))) hg6 (by go_size) (fun g hg => by have := (own_lt0 hoW.out g hg).1; omega)
                       obtain ⟨A6, c6, rfl, hc6, _⟩ := own_reads0 hown6)))
                   go_roundw
                   case rel =>
                     have e1 : (rfL es pl a ++ rfR es pl a (b + 1)).length = M.length + 1 := HLl.out
                     refine ⟨b + 1, _, by omega, by omega, by go_num, heap_set1v hQ6.out _, ?_, hb6.setCell (p := ⟨w1.heap.size, 1, none⟩) (Nat.le_refl _) _⟩
                     unfold Hid
                     rw [e1, hLe.out, pcells_append M [_]]
                     exact own_far hown6 fun g hg => Below.heap_setCell _ _ _ _ (by have := (own_lt0 hown6 g hg).1; dsimp only; omega)
                   case measure => simp [intOf]; omega)
              · cases yc
                · have hj : joinB es (xv, xn, true) (xv, yn, false) = true := by simp [joinB]
                  (have hLl : (rfL es pl a ++ rfR es pl a (b + 1)).length = (rfL es pl a ++ rfR es pl a b).length + 1 := by rw [HS.out, if_pos ⟨hab, hj⟩]; simp [← List.append_assoc]
                   have hLe : Hid (rfL es pl a ++ rfR es pl a (b + 1) = (rfL es pl a ++ rfR es pl a b) ++ [((a : Int), (b : Int))]) := by unfold Hid; rw [HS.out, if_pos ⟨hab, hj⟩, List.append_assoc]
                   have hLb : (rfL es pl a ++ rfR es pl a b).length + 1 ≤ 90000 := by rw [List.length_append] at hLl; omega
                   have HLl := Lib.hid hLl
                   clear hLl
                   obtain ⟨k0, k1, k2, k3, k4⟩ := blk2 (hQc.out _ hbc)
                   have hoW := Lib.hid (hoc.out _ hbc)
                   have hWs := Nat.lt_of_lt_of_le hQl (hbc).size
                   have hQW := Lib.hid (hQc.out _ hbc)
                   have hbW : Below w1.heap.size w1 wc := hb.trans ((hbc).mono hwrs)
                   generalize rfL es pl a ++ rfR es pl a b = M at *
                   go_wp2_with (first
                    | (at_builtin; go_loud (
                       refine wpList_app EI_edge rfl (.tmp 105) (.tmp 109) rfl (w1.heap.size + 1) v M.length (pcells M) rfl ?_ (some ⟨_, 0, none⟩) 1 1 [.int .i64 (a : Int), .int .i64 (b : Int)] rfl ?_ rfl (by simp [Value.oneCell']) ?_ ?_ ?_
                       · exact own_below0 hoW.out (by (repeat (first | with_reducible exact Below.refl _ _ | with_reducible assumption | with_reducible refine below_drewN0 ?_ _ | with_reducible refine Below.drew ?_ | with_reducible refine Below.alloc ?_ ?_ _ | with_reducible refine Below.setCell ?_ ?_ _ | go_size | exact Below.size (by assumption))))
                       · exact reads_new _ [_, _] _
                       · omega
                       · go_size
                       intro v6 w6 hown6 hg6 hat6
                       have hne : some w1.heap.size ≠ v.ownBlock := (fun hx => by have h9 := own_lt0 hoW.out _ hx.symm; omega)
                       have hQ6 := Lib.hid ((hg6.block w1.heap.size (by go_size) hne).trans (heap_old (o' := (Obj.cells #[Value.int .i64 (a : Int), Value.int .i64 (b : Int)] 28)) hQW.out))
                       obtain ⟨l0, l1, l2, l3, l4⟩ := blk2 hQ6.out
                       have hb6 : Below w1.heap.size w1 w6 := below_app (by (repeat (first | with_reducible exact Below.refl _ _ | with_reducible assumption | with_reducible refine below_drewN0 ?_ _ | with_reducible refine Below.drew ?_ | with_reducible refine Below.alloc ?_ ?_ _ | with_reducible refine Below.setCell ?_ ?_ _ | go_size | exact Below.size (by assumption)))) hg6 (by go_size) (fun g hg => by have := (own_lt0 hoW.out g hg).1; omega)
                       obtain ⟨A6, c6, rfl, hc6, _⟩ := own_reads0 hown6)))
                   go_roundw
                   case rel =>
                     have e1 : (rfL es pl a ++ rfR es pl a (b + 1)).length = M.length + 1 := HLl.out
                     refine ⟨b + 1, _, by omega, by omega, by go_num, heap_set1v hQ6.out _, ?_, hb6.setCell (p := ⟨w1.heap.size, 1, none⟩) (Nat.le_refl _) _⟩
                     unfold Hid
                     rw [e1, hLe.out, pcells_append M [_]]
                     exact own_far hown6 fun g hg => Below.heap_setCell _ _ _ _ (by have := (own_lt0 hown6 g hg).1; dsimp only; omega)
                   case measure => simp [intOf]; omega)
                · have hj : joinB es (xv, xn, true) (xv, yn, true) = false := by simp [joinB]
                  (go_wp2_with fail
                   go_roundw
                   case rel =>
                     refine ⟨b + 1, v, by omega, by omega, by go_num, hQc.out _ hbc, ?_, hb.trans ((hbc).mono hwrs)⟩
                     rw [HS.out, if_neg (by rw [hj]; simp)]
                     exact hoc.out _ hbc
                   case measure => simp [intOf]; omega)
            · have hv1 : (xv == yv) = false := by simpa using hv
              have hv2 : (xv != yv) = true := by simpa using hv
              have hv3 : decide (xv = yv) = false := decide_eq_false hv
              cases xc
              · cases yc
                · obtain ⟨xk, rfl⟩ : ∃ k : Nat, xn = k := ⟨xn.toNat, by omega⟩
                  obtain ⟨yk, rfl⟩ : ∃ k : Nat, yn = k := ⟨yn.toNat, by omega⟩
                  have hxl := X3.out rfl
                  have hyl := Y3.out rfl
                  rw [Int.toNat_natCast] at hxl hyl
                  have hj0 : joinB es (xv, (xk : Int), false) (yv, (yk : Int), false) = (decide ((nearL es xv)[xk]? = some yv) && decide ((nearL es yv)[yk]? = some xv)) := by simp [joinB, hv]
                  obtain ⟨u, hu⟩ : ∃ u, (nearL es xv)[xk]? = some u := ⟨(nearL es xv)[xk], by simp [hxl]⟩
                  obtain ⟨t, ht⟩ : ∃ u, (nearL es yv)[yk]? = some u := ⟨(nearL es yv)[yk], by simp [hyl]⟩
                  rw [hu, ht] at hj0
                  have HU := Lib.hid hu
                  have HT := Lib.hid ht
                  have hll := nearL_length es xv
                  have hlm := nearL_length es yv
                  have hes := hR.len
                  have HNx := fun W h => HN xv W h
                  have HNy := fun W h => HN yv W h
                  clear hu ht
                  generalize nearL es xv = lx at *
                  generalize nearL es yv = ly at *
                  obtain ⟨V, hVe⟩ : ∃ V : World, V = wc := ⟨_, rfl⟩
                  have hCC := Lib.hid (fun (W : World) (h : Below wc.heap.size wc W) => (⟨(HG.out W (hbx.trans (h.mono hbx.size))).1, (HG.out W (hbx.trans (h.mono hbx.size))).2, (h.cell (p := ⟨X, 0, none⟩) hX).trans c0, (h.cell (p := ⟨X, 1, none⟩) hX).trans c1, (h.cell (p := ⟨Y, 0, none⟩) hY).trans d0, (h.cell (p := ⟨Y, 1, none⟩) hY).trans d1⟩ :
                    W.cell? ⟨w.heap.size, 0, none⟩ = some (.int .i64 (m : Int)) ∧ W.cell? ⟨w.heap.size, 1, none⟩ = some (.slice A es.length c) ∧ W.cell? ⟨X, 0, none⟩ = some (.int .i64 xv) ∧ W.cell? ⟨X, 1, none⟩ = some (.int .i64 (xk : Int)) ∧ W.cell? ⟨Y, 0, none⟩ = some (.int .i64 yv) ∧ W.cell? ⟨Y, 1, none⟩ = some (.int .i64 (yk : Int))))
                  have hrV := hr1.below hbx
                  have hcur : Below wc.heap.size wc wc := Below.refl _ _
                  go_upto_region 14 with fail
                  obtain ⟨s0, s1, s2, s3, s4, s5⟩ := hCC.out wc hcur
                  have HJ := Lib.hid hj0
                  clear hj0 hVe c0 c1 c2 d0 d1 d2
                  go_region_held3 (fun w' => w'.cell? ⟨w.heap.size, 0, none⟩ = some (.int .i64 (m : Int)) ∧ w'.cell? ⟨w.heap.size, 1, none⟩ = some (.slice A es.length c) ∧ w'.cell? ⟨X, 0, none⟩ = some (.int .i64 xv) ∧ w'.cell? ⟨Y, 0, none⟩ = some (.int .i64 yv))
                    (first | exact ⟨s0, s1, s2, s4⟩ | (refine ⟨(hCC.out _ ?_).1, (hCC.out _ ?_).2.1, (hCC.out _ ?_).2.2.1, (hCC.out _ ?_).2.2.2.2.1⟩ <;> (repeat (first | with_reducible exact Below.refl _ _ | with_reducible assumption | with_reducible refine below_drewN0 ?_ _ | with_reducible refine Below.drew ?_ | with_reducible refine Below.alloc ?_ ?_ _ | with_reducible refine Below.setCell ?_ ?_ _ | go_size | exact Below.size (by assumption))); done))
                    (first
                      | (go_at_call 39; go_loud ((with_reducible refine (HNx _ (hrV.below ?_)).mono ?_); (repeat (first | with_reducible exact Below.refl _ _ | with_reducible assumption | with_reducible refine below_drewN0 ?_ _ | with_reducible refine Below.drew ?_ | with_reducible refine Below.alloc ?_ ?_ _ | with_reducible refine Below.setCell ?_ ?_ _ | go_size | exact Below.size (by assumption))); rintro e wx ⟨A5, c5, rfl, hc5, hr5, hbx2⟩; (have hcur' : Below wc.heap.size wc wx := Below.trans (by (repeat (first | with_reducible exact Below.refl _ _ | with_reducible assumption | with_reducible refine below_drewN0 ?_ _ | with_reducible refine Below.drew ?_ | with_reducible refine Below.alloc ?_ ?_ _ | with_reducible refine Below.setCell ?_ ?_ _ | go_size | exact Below.size (by assumption)))) (hbx2.mono (by have := hcur.size; go_size)); clear hbx2 hcur; have hcur := hcur'; clear hcur')))
                      | (go_at_call 39; go_loud ((with_reducible refine (HNy _ (hrV.below ?_)).mono ?_); (repeat (first | with_reducible exact Below.refl _ _ | with_reducible assumption | with_reducible refine below_drewN0 ?_ _ | with_reducible refine Below.drew ?_ | with_reducible refine Below.alloc ?_ ?_ _ | with_reducible refine Below.setCell ?_ ?_ _ | go_size | exact Below.size (by assumption))); rintro e wx2 ⟨A6, c6, rfl, hc6, hr6, hbx2⟩; (first | (have hr5' := (Reads.drewN0 hr5 0).below (hbx2.mono (by go_size)); clear hr5) | skip); (have hcur' : Below wc.heap.size wc wx2 := Below.trans (by (repeat (first | with_reducible exact Below.refl _ _ | with_reducible assumption | with_reducible refine below_drewN0 ?_ _ | with_reducible refine Below.drew ?_ | with_reducible refine Below.alloc ?_ ?_ _ | with_reducible refine Below.setCell ?_ ?_ _ | go_size | exact Below.size (by assumption)))) (hbx2.mono (by have := hcur.size; go_size)); clear hbx2 hcur; have hcur := hcur'; clear hcur'))))
                  clear s0 s1 s2 s3 s4 s5
                  obtain ⟨_, _, s2, s3, s4, s5⟩ := hCC.out wx2 hcur
                  obtain ⟨b5, o5, rfl, hb5, e5⟩ := hr5'.int xk u HU.out
                  obtain ⟨b6, o6, rfl, hb6, e6⟩ := hr6.int yk t HT.out
                  have i5 : (xk : Int) < (lx.length : Int) := by omega
                  have i6 : (yk : Int) < (ly.length : Int) := by omega
                  have hbz : Below wr.heap.size wr wx2 := hbc.trans (hcur.mono hbc.size)
                  clear hr5' hr6 HNx HNy HN HU HT hrV
                  by_cases hu : u = yv
                  · have w1' : (u == yv) = true := by simpa using hu
                    have w3 : decide (u = yv) = true := decide_eq_true hu
                    by_cases ht : t = xv
                    · have hj : joinB es (xv, (xk : Int), false) (yv, (yk : Int), false) = true := by rw [HJ.out, hu, ht]; simp
                      have w2 : (t == xv) = true := by simpa using ht
                      have w4 : decide (t = xv) = true := decide_eq_true ht
                      clear hu ht
                      go_wp2_with fail
                      go_quiet (fail)
                      have hbz9 : Below wr.heap.size wr (wx2.drewN nq) := below_drewN0 hbz _
                      generalize wx2.drewN nq = W9 at *
                      (have hLl : (rfL es pl a ++ rfR es pl a (b + 1)).length = (rfL es pl a ++ rfR es pl a b).length + 1 := by rw [HS.out, if_pos ⟨hab, hj⟩]; simp [← List.append_assoc]
                       have hLe : Hid (rfL es pl a ++ rfR es pl a (b + 1) = (rfL es pl a ++ rfR es pl a b) ++ [((a : Int), (b : Int))]) := by unfold Hid; rw [HS.out, if_pos ⟨hab, hj⟩, List.append_assoc]
                       have hLb : (rfL es pl a ++ rfR es pl a b).length + 1 ≤ 90000 := by rw [List.length_append] at hLl; omega
                       have HLl := Lib.hid hLl
                       clear hLl
                       obtain ⟨k0, k1, k2, k3, k4⟩ := blk2 (hQc.out _ hbz9)
                       have hoW := Lib.hid (hoc.out _ hbz9)
                       have hWs := Nat.lt_of_lt_of_le hQl (hbz9).size
                       have hQW := Lib.hid (hQc.out _ hbz9)
                       have hbW : Below w1.heap.size w1 W9 := hb.trans ((hbz9).mono hwrs)
                       generalize rfL es pl a ++ rfR es pl a b = M at *
                       go_wp2_with (first
                        | (at_builtin; go_loud (
                           refine wpList_app EI_edge rfl (.tmp 105) (.tmp 109) rfl (w1.heap.size + 1) v M.length (pcells M) rfl ?_ (some ⟨_, 0, none⟩) 1 1 [.int .i64 (a : Int), .int .i64 (b : Int)] rfl ?_ rfl (by simp [Value.oneCell']) ?_ ?_ ?_
                           · exact own_below0 hoW.out (by (repeat (first | with_reducible exact Below.refl _ _ | with_reducible assumption | with_reducible refine below_drewN0 ?_ _ | with_reducible refine Below.drew ?_ | with_reducible refine Below.alloc ?_ ?_ _ | with_reducible refine Below.setCell ?_ ?_ _ | go_size | exact Below.size (by assumption))))
                           · exact reads_new _ [_, _] _
                           · omega
                           · go_size
                           intro v6 w6 hown6 hg6 hat6
                           have hne : some w1.heap.size ≠ v.ownBlock := (fun hx => by have h9 := own_lt0 hoW.out _ hx.symm; omega)
                           have hQ6 := Lib.hid ((hg6.block w1.heap.size (by go_size) hne).trans (heap_old (o' := (Obj.cells #[Value.int .i64 (a : Int), Value.int .i64 (b : Int)] 28)) hQW.out))
                           obtain ⟨l0, l1, l2, l3, l4⟩ := blk2 hQ6.out
                           have hb6 : Below w1.heap.size w1 w6 := below_app (by (repeat (first | with_reducible exact Below.refl _ _ | with_reducible assumption | with_reducible refine below_drewN0 ?_ _ | with_reducible refine Below.drew ?_ | with_reducible refine Below.alloc ?_ ?_ _ | with_reducible refine Below.setCell ?_ ?_ _ | go_size | exact Below.size (by assumption)))) hg6 (by go_size) (fun g hg => by have := (own_lt0 hoW.out g hg).1; omega)
                           obtain ⟨A6, c6, rfl, hc6, _⟩ := own_reads0 hown6)))
                       go_roundw
                       case rel =>
                         have e1 : (rfL es pl a ++ rfR es pl a (b + 1)).length = M.length + 1 := HLl.out
                         refine ⟨b + 1, _, by omega, by omega, by go_num, heap_set1v hQ6.out _, ?_, hb6.setCell (p := ⟨w1.heap.size, 1, none⟩) (Nat.le_refl _) _⟩
                         unfold Hid
                         rw [e1, hLe.out, pcells_append M [_]]
                         exact own_far hown6 fun g hg => Below.heap_setCell _ _ _ _ (by have := (own_lt0 hown6 g hg).1; dsimp only; omega)
                       case measure => simp [intOf]; omega)
                    · have hj : joinB es (xv, (xk : Int), false) (yv, (yk : Int), false) = false := by rw [HJ.out, hu]; simp [ht]
                      have w2 : (t == xv) = false := by simpa using ht
                      have w4 : decide (t = xv) = false := decide_eq_false ht
                      clear hu ht
                      go_wp2_with fail
                      go_quiet (fail)
                      have hbz9 : Below wr.heap.size wr (wx2.drewN nq) := below_drewN0 hbz _
                      generalize wx2.drewN nq = W9 at *
                      (go_wp2_with fail
                       go_roundw
                       case rel =>
                         refine ⟨b + 1, v, by omega, by omega, by go_num, hQc.out _ hbz9, ?_, hb.trans ((hbz9).mono hwrs)⟩
                         rw [HS.out, if_neg (by rw [hj]; simp)]
                         exact hoc.out _ hbz9
                       case measure => simp [intOf]; omega)
                  · have hj : joinB es (xv, (xk : Int), false) (yv, (yk : Int), false) = false := by rw [HJ.out]; simp [hu]
                    have w2 : (u == yv) = false := by simpa using hu
                    have w4 : decide (u = yv) = false := decide_eq_false hu
                    clear hu
                    go_wp2_with fail
                    go_quiet (fail)
                    have hbz9 : Below wr.heap.size wr (wx2.drewN nq) := below_drewN0 hbz _
                    generalize wx2.drewN nq = W9 at *
                    (go_wp2_with fail
                     go_roundw
                     case rel =>
                       refine ⟨b + 1, v, by omega, by omega, by go_num, hQc.out _ hbz9, ?_, hb.trans ((hbz9).mono hwrs)⟩
                       rw [HS.out, if_neg (by rw [hj]; simp)]
                       exact hoc.out _ hbz9
                     case measure => simp [intOf]; omega)
                · have hj : joinB es (xv, xn, false) (yv, yn, true) = false := by simp [joinB, hv]
                  (go_wp2_with fail
                   go_roundw
                   case rel =>
                     refine ⟨b + 1, v, by omega, by omega, by go_num, hQc.out _ hbc, ?_, hb.trans ((hbc).mono hwrs)⟩
                     rw [HS.out, if_neg (by rw [hj]; simp)]
                     exact hoc.out _ hbc
                   case measure => simp [intOf]; omega)
              · cases yc
                · have hj : joinB es (xv, xn, true) (yv, yn, false) = false := by simp [joinB, hv]
                  (go_wp2_with fail
                   go_roundw
                   case rel =>
                     refine ⟨b + 1, v, by omega, by omega, by go_num, hQc.out _ hbc, ?_, hb.trans ((hbc).mono hwrs)⟩
                     rw [HS.out, if_neg (by rw [hj]; simp)]
                     exact hoc.out _ hbc
                   case measure => simp [intOf]; omega)
                · have hj : joinB es (xv, xn, true) (yv, yn, true) = false := by simp [joinB, hv]
                  (go_wp2_with fail
                   go_roundw
                   case rel =>
                     refine ⟨b + 1, v, by omega, by omega, by go_num, hQc.out _ hbc, ?_, hb.trans ((hbc).mono hwrs)⟩
                     rw [HS.out, if_neg (by rw [hj]; simp)]
                     exact hoc.out _ hbc
                   case measure => simp [intOf]; omega)
        · obtain rfl : b = pl.length := by omega
          go_wp2_with fail
          go_roundw
          case rel => exact ⟨a + 1, v, by omega, by go_num, hQ, by rw [rfL_succ]; exact ho, hb⟩
          case measure => simp [intOf]; omega
    · obtain rfl : a = pl.length := by omega
      obtain ⟨k0, k1, k2, k3, k4⟩ := blk2 hQ.out
      obtain ⟨A5, c5, rfl, hc5, hr5⟩ := own_reads0 ho.out
      go_wp2_with fail
      go_ret2
      exact ⟨A5, c5, rfl, hc5, hr5, hbw.trans (hb.mono hw1)⟩
end Go.Proofs.Ytglhdoibglafbaa

/- Gadgets that are refused: Size, Edges, and the document's Edges. -/
namespace Go.Proofs.Ytglhdoibglafbaa
open Go Go.RowKit
set_option maxRecDepth 100000
set_option linter.unusedVariables false

theorem size_err (n d : Int) (es : List (Int × Int)) (f : List Int) (A Af : Option Addr) (c cf : Nat) (w : World) (hr : Reads w A (pcells es)) (hrf : Reads w Af (icells f)) (hd : d ≠ 0)
    (HN : ∀ W, Reads W A (pcells es) → Reads W Af (icells f) → Calls Try.prog 61 #[.agg #[.int .i64 n, .slice A es.length c], .slice Af f.length cf] W fun e w' => e = .returned (.tuple #[.pointer none, .int .i64 d]) ∧ Below W.heap.size W w') :
    Calls Try.prog 15 #[.agg #[.int .i64 n, .slice A es.length c], .slice Af f.length cf] w fun e w' => e = .returned (.tuple #[.int .i64 0, .int .i64 0, .int .i64 d]) ∧ Below w.heap.size w w' := by
  have hd' : (d != 0) = true := by simpa using hd
  clear hd
  go_enter Try.func15, Try.ntmps15
  go_wp2_with (go_at_call 61; go_loud (refine (HN _ (hr.below ?_) (hrf.below ?_)).mono ?_; (repeat (first | with_reducible exact Below.refl _ _ | with_reducible assumption | with_reducible refine below_drewN0 ?_ _ | with_reducible refine Below.drew ?_ | with_reducible refine Below.alloc ?_ ?_ _ | with_reducible refine Below.setCell ?_ ?_ _ | go_size | exact Below.size (by assumption))); (repeat (first | with_reducible exact Below.refl _ _ | with_reducible assumption | with_reducible refine below_drewN0 ?_ _ | with_reducible refine Below.drew ?_ | with_reducible refine Below.alloc ?_ ?_ _ | with_reducible refine Below.setCell ?_ ?_ _ | go_size | exact Below.size (by assumption))); rintro e w1 ⟨rfl, hb1⟩; have hbw : Below w.heap.size w w1 := Below.trans (by (repeat (first | with_reducible exact Below.refl _ _ | with_reducible assumption | with_reducible refine below_drewN0 ?_ _ | with_reducible refine Below.drew ?_ | with_reducible refine Below.alloc ?_ ?_ _ | with_reducible refine Below.setCell ?_ ?_ _ | go_size | exact Below.size (by assumption)))) (hb1.mono (by simp))))
  go_ret3
  exact ⟨rfl, hbw⟩

theorem edges_err (n d : Int) (es : List (Int × Int)) (f : List Int) (A Af : Option Addr) (c cf : Nat) (w : World) (hr : Reads w A (pcells es)) (hrf : Reads w Af (icells f)) (hd : d ≠ 0)
    (HN : ∀ W, Reads W A (pcells es) → Reads W Af (icells f) → Calls Try.prog 61 #[.agg #[.int .i64 n, .slice A es.length c], .slice Af f.length cf] W fun e w' => e = .returned (.tuple #[.pointer none, .int .i64 d]) ∧ Below W.heap.size W w') :
    Calls Try.prog 48 #[.agg #[.int .i64 n, .slice A es.length c], .slice Af f.length cf] w fun e w' => e = .returned (.tuple #[.slice none 0 0, .int .i64 d]) ∧ Below w.heap.size w w' := by
  have hd' : (d != 0) = true := by simpa using hd
  clear hd
  go_enter Try.func48, Try.ntmps48
  go_wp2_with (go_at_call 61; go_loud (refine (HN _ (hr.below ?_) (hrf.below ?_)).mono ?_; (repeat (first | with_reducible exact Below.refl _ _ | with_reducible assumption | with_reducible refine below_drewN0 ?_ _ | with_reducible refine Below.drew ?_ | with_reducible refine Below.alloc ?_ ?_ _ | with_reducible refine Below.setCell ?_ ?_ _ | go_size | exact Below.size (by assumption))); (repeat (first | with_reducible exact Below.refl _ _ | with_reducible assumption | with_reducible refine below_drewN0 ?_ _ | with_reducible refine Below.drew ?_ | with_reducible refine Below.alloc ?_ ?_ _ | with_reducible refine Below.setCell ?_ ?_ _ | go_size | exact Below.size (by assumption))); rintro e w1 ⟨rfl, hb1⟩; have hbw : Below w.heap.size w w1 := Below.trans (by (repeat (first | with_reducible exact Below.refl _ _ | with_reducible assumption | with_reducible refine below_drewN0 ?_ _ | with_reducible refine Below.drew ?_ | with_reducible refine Below.alloc ?_ ?_ _ | with_reducible refine Below.setCell ?_ ?_ _ | go_size | exact Below.size (by assumption)))) (hb1.mono (by simp))))
  go_ret2
  exact ⟨rfl, hbw⟩

theorem refEdges_err (n d : Int) (es : List (Int × Int)) (f : List Int) (A Af : Option Addr) (c cf : Nat) (w : World) (hr : Reads w A (pcells es)) (hrf : Reads w Af (icells f)) (hd : d ≠ 0)
    (HN : ∀ W, Reads W A (pcells es) → Reads W Af (icells f) → Calls Try.prog 47 #[.agg #[.int .i64 n, .slice A es.length c], .slice Af f.length cf] W fun e w' => e = .returned (.tuple #[.slice none 0 0, .int .i64 d]) ∧ Below W.heap.size W w') :
    Calls Try.prog 49 #[.agg #[.int .i64 n, .slice A es.length c], .slice Af f.length cf] w fun e w' => e = .returned (.tuple #[.slice none 0 0, .int .i64 d]) ∧ Below w.heap.size w w' := by
  have hd' : (d != 0) = true := by simpa using hd
  clear hd
  go_enter Try.func49, Try.ntmps49
  go_wp2_with (go_at_call 47; go_loud (refine (HN _ (hr.below ?_) (hrf.below ?_)).mono ?_; (repeat (first | with_reducible exact Below.refl _ _ | with_reducible assumption | with_reducible refine below_drewN0 ?_ _ | with_reducible refine Below.drew ?_ | with_reducible refine Below.alloc ?_ ?_ _ | with_reducible refine Below.setCell ?_ ?_ _ | go_size | exact Below.size (by assumption))); (repeat (first | with_reducible exact Below.refl _ _ | with_reducible assumption | with_reducible refine below_drewN0 ?_ _ | with_reducible refine Below.drew ?_ | with_reducible refine Below.alloc ?_ ?_ _ | with_reducible refine Below.setCell ?_ ?_ _ | go_size | exact Below.size (by assumption))); rintro e w1 ⟨rfl, hb1⟩; have hbw : Below w.heap.size w w1 := Below.trans (by (repeat (first | with_reducible exact Below.refl _ _ | with_reducible assumption | with_reducible refine below_drewN0 ?_ _ | with_reducible refine Below.drew ?_ | with_reducible refine Below.alloc ?_ ?_ _ | with_reducible refine Below.setCell ?_ ?_ _ | go_size | exact Below.size (by assumption)))) (hb1.mono (by simp))))
  go_ret2
  exact ⟨rfl, hbw⟩
end Go.Proofs.Ytglhdoibglafbaa

/- Edges of gadgets: the document's, and both of them in all cases. -/
namespace Go.Proofs.Ytglhdoibglafbaa
open Go Go.RowKit
set_option maxRecDepth 100000
set_option linter.unusedVariables false

theorem rfR_mono (es : List PE) (l : List Pl) (a : Nat) {b : Nat} : ∀ {d : Nat}, b ≤ d → (rfR es l a b).length ≤ (rfR es l a d).length := by
  intro d
  induction d with
  | zero => intro h; obtain rfl : b = 0 := by omega
            exact Nat.le_refl _
  | succ d ih =>
    intro h
    by_cases he : b = d + 1
    · subst he; exact Nat.le_refl _
    · have h1 := ih (by omega)
      rw [rfR_succ]
      split
      · rw [List.length_append]; omega
      · exact h1
theorem rfL_mono (es : List PE) (l : List Pl) {b : Nat} : ∀ {d : Nat}, b ≤ d → (rfL es l b).length ≤ (rfL es l d).length := by
  intro d
  induction d with
  | zero => intro h; obtain rfl : b = 0 := by omega
            exact Nat.le_refl _
  | succ d ih =>
    intro h
    by_cases he : b = d + 1
    · subst he; exact Nat.le_refl _
    · have := ih (by omega)
      rw [rfL_succ, List.length_append]; omega

theorem refEdges_any (m : Nat) (es : List (Int × Int)) (f : List Int) (A Af : Option Addr) (c cf : Nat) (w : World) (hr : Reads w A (pcells es)) (hc : es.length ≤ c) (hl : es.length ≤ 100)
    (hrf : Reads w Af (icells f)) (hcf : f.length ≤ cf) (hmf : f.length ≤ 4611686018427387903) (hde : degErr m es f = 0) :
    Calls Try.prog 49 #[.agg #[.int .i64 (m : Int), .slice A es.length c], .slice Af f.length cf] w (EdPost (edgesL m es f) w) := by
  obtain ⟨hP, hfl, hfb, hs⟩ := degErr_small hde
  have hG := gad_ok m es f hde
  have hn := gad_len m es f hde hl
  have hlen := lay_len m es f hde hl
  have hsort := lay_sorted hG
  have hel : (rfL es (plAll m es f) (plAll m es f).length).length ≤ 90000 := by
    have h1 : (rfL es (plAll m es f) (plAll m es f).length) = sortL (layL (gadF m es f) (ports m es) (plC m es f) m es) := hsort.symm
    rw [h1, (sortL_perm _).length_eq]; exact hlen
  have hR := (right_iff _ _).2 hP
  refine refEdges_ok m es f (plAll m es f) A Af c cf w hr hrf hP (fun a x hx => ?_) hn.2 (fun a b ha hb => ?_) (fun v W h => ?_) (fun W h1 h2 => ?_)
  · have ha : a < off (ports m es) (plC m es f) m := (List.getElem?_eq_some_iff.1 hx).1
    obtain ⟨v, hv, ⟨i, hi, rfl⟩ | ⟨i, hi, rfl⟩⟩ := off_inv _ _ _ m ha
    · have h1 := pl_port (ports m es) (plC m es f) v i hi m hv
      rw [show plAll m es f = placesL (ports m es) (plC m es f) m from rfl, h1] at hx
      cases hx
      have h2 := hG.hP v hv
      refine ⟨?_, ?_, ?_, fun _ => ?_⟩
      · simp
      · simp; omega
      · simp
      · simp only [Int.toNat_natCast]; rw [← h2]; exact hi
    · have h1 := pl_core (ports m es) (plC m es f) v i hi m hv
      rw [show plAll m es f = placesL (ports m es) (plC m es f) m from rfl, h1] at hx
      cases hx
      refine ⟨?_, ?_, ?_, fun h => ?_⟩
      · simp
      · simp; omega
      · simp
      · simp at h
  · have h1 := rfR_mono es (plAll m es f) a hb
    have h2 := rfL_mono es (plAll m es f) (show a + 1 ≤ (plAll m es f).length by omega)
    rw [rfL_succ, List.length_append] at h2
    omega
  · have h1 := refNear_any m v es A c W h hc (by omega)
    rw [nearB_right hR] at h1
    exact h1
  · refine (refPlaces_any m es f A Af c cf W h1 hc hl h2 hcf hmf hde).mono ?_
    rintro e w' ⟨v, rfl, ho, hb⟩
    obtain ⟨Ap, cp, rfl, hcp, hrp⟩ := own_reads0 ho
    exact ⟨Ap, cp, rfl, hcp, hrp, hb⟩
end Go.Proofs.Ytglhdoibglafbaa

/- Walks of help's Own at numbers. -/
namespace Go.Proofs.Ytglhdoibglafbaa
open Go Go.RowKit
set_option maxRecDepth 100000
set_option linter.unusedVariables false

set_option maxHeartbeats 2000000 in
theorem ownI (l : List Int) (f : Int) (A : Option Addr) (c : Nat) (w : World) (hr : Reads w A (icells l)) (hc : l.length ≤ c) (hm : l.length ≤ 1000000) :
    Calls Try.prog 44 #[.slice A l.length c, .int .i64 f] w (OwnP 3 icells l f w) := by
  obtain ⟨i0, hi0, hz0, hs0, hb0⟩ := info_parts (EI_int).hinfo
  have hmk : ∀ w0 : World, (Instr.makeSlice 26 (.int .i64 0) (.int .i64 ((l.length : Int) + 3))).run Try.prog w0 = .ok (.slice (some ⟨w0.heap.size, 0, none⟩) 0 (l.length + 3)) (w0.alloc (.cells (icells (List.replicate (l.length + 3) 0)).toArray 3)) := fun w0 => by
    have h := run_make (P := Try.prog) w0 26 3 i0 (.int .i64 0) (EI_int).ht hi0 hz0 .i64 .i64 0 ((l.length : Int) + 3) (by omega) (by omega) (by rw [hb0]; omega) (by omega)
    rw [h, hs0, show ((l.length : Int) + 3).toNat = l.length + 3 by omega, ← made_zero, Nat.mul_one]
    try rfl
  have HMK := Lib.hid hmk
  clear hmk
  go_enter Try.func44, Try.ntmps44
  have hmk := HMK.out
  go_upto_region 2 with fail
  clear hmk HMK hi0 hz0 hs0 hb0
  generalize hW : w.alloc (Obj.cells (icells (List.replicate (l.length + 3) 0)).toArray 3) = W
  have hbW : Below w.heap.size w W := by rw [← hW]; (repeat (first | with_reducible exact Below.refl _ _ | with_reducible assumption | with_reducible refine below_drewN0 ?_ _ | with_reducible refine Below.drew ?_ | with_reducible refine Below.alloc ?_ ?_ _ | with_reducible refine Below.setCell ?_ ?_ _ | go_size | exact Below.size (by assumption)))
  have hG : W.heap[w.heap.size]? = some (.cells (icells (List.replicate (l.length + 3) 0)).toArray 3 (0, 0)) := by
    rw [← hW]
    exact heap_alloc_new w _
  have hrW := hr.below hbW
  have HG := Lib.hid hG
  clear hW hG hr
  have HLL := Lib.hid (show (icells l).length = l.length * 1 by simp [icells_length])
  have i1 : (l.length : Int) + 3 ≤ ((l.length + 3 : Nat) : Int) := by omega
  have i2 : (0 : Int) ≤ (l.length : Int) + 3 := by omega
  have i3 : ((l.length : Int) + 3).toNat = l.length + 3 := by omega
  go_upto_region 4 with (first
    | (at_builtin; go_loud (
       refine wpList_room EI_int rfl (.tmp 12) (.tmp 13) rfl w.heap.size (icells (List.replicate (l.length + 3) 0)) 0 (l.length + 3) rfl HG.out ?_ A l.length c (icells l) rfl hrW HLL.out (icells_one l) ?_ ?_
       · simp [icells_length]
       · omega
       intro w2 hG2 hg2
       have hb2 : Below w.heap.size w w2 := hbW.grown hg2 hbW.size (fun k hk => by cases hk; omega)
       have HG2 : Hid (w2.heap[w.heap.size]? = some (.cells (icells (l ++ (List.replicate 0 f ++ List.replicate (3 - 0) 0))).toArray 3 (0, 0))) := by
         unfold Hid
         rw [hG2]
         simp only [Nat.zero_mul, List.take_zero, List.nil_append, Nat.zero_add, List.replicate_zero, Nat.mul_one]
         rw [icells_drop, List.drop_replicate, show l.length + 3 - l.length = 3 by omega, icells_append]
       clear hG2)))
  go_wp2_with fail
  clear hrW hbW
  go_loopw [7] (fun i wr => ∃ j : Nat, j ≤ 3 ∧ i = .int .i64 ((l.length + j : Nat) : Int) ∧ Hid (wr.heap[w.heap.size]? = some (.cells (icells (l ++ (List.replicate j f ++ List.replicate (3 - j) 0))).toArray 3 (0, 0))) ∧ Below w.heap.size w wr) (fun i _ => l.length + 3 - (intOf i).toNat)
  case atStart => exact ⟨0, by omega, rfl, HG2, hb2⟩
  case round =>
    clear HG2 hb2 hg2
    obtain ⟨j, hj, rfl, hG, hb⟩ := hrel
    by_cases hlt : j < 3
    · have hlG := heap_lt0 hG.out
      have hz0 := blkf0 hG.out (l.length + j)
      have hy0 := blkc0 hG.out (l.length + j) (.int .i64 0) (by rw [List.getElem?_toArray]; exact icells_get _ _ _ (fill_get l f 0 j hlt))
      have j1 : ((l.length + j : Nat) : Int) < ((l.length + 3 : Nat) : Int) := by omega
      have j2 : l.length + j < l.length + 3 := by omega
      go_wp2_with fail
      go_roundw
      case rel =>
        refine ⟨j + 1, by omega, by go_num, ?_, by (repeat (first | with_reducible exact Below.refl _ _ | with_reducible assumption | with_reducible refine below_drewN0 ?_ _ | with_reducible refine Below.drew ?_ | with_reducible refine Below.alloc ?_ ?_ _ | with_reducible refine Below.setCell ?_ ?_ _ | go_size | exact Below.size (by assumption)))⟩
        have h9 := blk_put hG.out (l.length + j) (.int .i64 f)
        rw [icells_set, fill_step _ _ _ _ hlt] at h9
        exact h9
      case measure => simp [intOf]; omega
    · obtain rfl : j = 3 := by omega
      go_wp2_with fail
      go_ret
      refine ⟨_, rfl, Nat.le_refl _, ?_, hb⟩
      have h9 := hG.out
      simpa using h9

set_option maxHeartbeats 2000000 in
theorem keptI (l : List Int) (f : Int) (g : Nat) (A : Option Addr) (c : Nat) (w : World) (hr : Reads w A (icells l)) (hc : l.length ≤ c) (hm : l.length ≤ 1000000) (hG : w.heap[g]? = some (.cells (icells (l ++ List.replicate 3 f)).toArray 3 (0, 0))) :
    Calls Try.prog 52 #[.slice (some ⟨g, 0, none⟩) l.length (l.length + 3), .slice A l.length c, .int .i64 f] w fun e w' => e = .returned (.bool true) ∧ Below w.heap.size w w' := by
  have hrg : Reads w (some ⟨g, 0, none⟩) (icells l) := by
    have := reads_blk hG
    rw [icells_append] at this
    exact this.front
  have hlg := heap_lt0 hG
  have HP := fun W hR1 hR2 => sameI_plain l l (some ⟨g, 0, none⟩) A (l.length + 3) c W hR1 hR2 (by omega) hc (by omega) (by omega)
  simp only [decide_true] at HP
  have HG := Lib.hid hG
  clear hG
  have i0 : decide (((l.length + 3 : Nat) : Int) < (l.length : Int) + 3) = false := decide_eq_false (by omega)
  have i1 : (l.length : Int) + 3 ≤ ((l.length + 3 : Nat) : Int) := by omega
  have i2 : (0 : Int) ≤ (l.length : Int) + 3 := by omega
  have i3 : ((l.length : Int) + 3).toNat = l.length + 3 := by omega
  go_enter Try.func52, Try.ntmps52
  go_wp2_with (first
    | (go_at_call 37; go_loud (refine (HP _ (hrg.below ?_) (hr.below ?_)).mono ?_; (repeat (first | with_reducible exact Below.refl _ _ | with_reducible assumption | with_reducible refine below_drewN0 ?_ _ | with_reducible refine Below.drew ?_ | with_reducible refine Below.alloc ?_ ?_ _ | with_reducible refine Below.setCell ?_ ?_ _ | go_size | exact Below.size (by assumption))); (repeat (first | with_reducible exact Below.refl _ _ | with_reducible assumption | with_reducible refine below_drewN0 ?_ _ | with_reducible refine Below.drew ?_ | with_reducible refine Below.alloc ?_ ?_ _ | with_reducible refine Below.setCell ?_ ?_ _ | go_size | exact Below.size (by assumption))); rintro e w1 ⟨rfl, hb1⟩; have hG1 := Lib.hid ((hb1.block g hlg).trans HG.out); have hbw : Below w.heap.size w w1 := hb1; clear hb1)))
  go_loopw [8] (fun i wr => ∃ j : Nat, j ≤ 3 ∧ i = .int .i64 ((l.length + j : Nat) : Int) ∧ Hid (Below w1.heap.size w1 wr)) (fun i _ => l.length + 3 - (intOf i).toNat)
  case atStart => exact ⟨0, by omega, rfl, Below.refl _ _⟩
  case round =>
    obtain ⟨j, hj, rfl, hb⟩ := hrel
    have hG' := (hb.out.block g (heap_lt0 hG1.out)).trans hG1.out
    by_cases hlt : j < 3
    · have hy0 := blkc0 hG' (l.length + j) (.int .i64 f) (by rw [List.getElem?_toArray]; exact icells_get _ _ _ (kept_get l f j hlt))
      have j1 : ((l.length + j : Nat) : Int) < ((l.length + 3 : Nat) : Int) := by omega
      have j2 : l.length + j < l.length + 3 := by omega
      clear hG'
      go_wp2_with fail
      (try (go_quiet (fail)))
      (try (go_wp2_with fail))
      go_roundw
      case rel => exact ⟨j + 1, by omega, by go_num, hb.out.trans (by (repeat (first | with_reducible exact Below.refl _ _ | with_reducible assumption | with_reducible refine below_drewN0 ?_ _ | with_reducible refine Below.drew ?_ | with_reducible refine Below.alloc ?_ ?_ _ | with_reducible refine Below.setCell ?_ ?_ _ | go_size | exact Below.size (by assumption))))⟩
      case measure => simp [intOf]; omega
    · obtain rfl : j = 3 := by omega
      clear hG'
      go_wp2_with fail
      go_ret
      exact ⟨rfl, hbw.trans (hb.out.mono hbw.size)⟩
end Go.Proofs.Ytglhdoibglafbaa

/- The walk of the law GadgetTells. -/
namespace Go.Proofs.Ytglhdoibglafbaa
open Go Go.RowKit
set_option maxRecDepth 100000
set_option linter.unusedVariables false

def RowR (cs : List Value) (len : Nat) (d : Int) (w : World) (e : Ending) (w' : World) : Prop :=
  ∃ A c, e = .returned (.tuple #[.slice A len c, .int .i64 d]) ∧ len ≤ c ∧ Reads w' A cs ∧ Below w.heap.size w w'


set_option maxHeartbeats 4000000 in
theorem gt_walk (n a b d : Int) (pl : List Pl) (el : List PE) (es : List (Int × Int)) (f : List Int) (A Af : Option Addr) (c cf : Nat) (w : World) (hr : Reads w A (pcells es)) (hc : es.length ≤ c) (hrf : Reads w Af (icells f)) (hcf : f.length ≤ cf)
    (h12 : es.length ≤ 12) (h40 : n ≤ 40) (hf40 : f.length ≤ 40) (hpl : pl.length ≤ 100000) (hel : el.length ≤ 100000)
    (H1 : ∀ Af cf W, Reads W A (pcells es) → Reads W Af (icells f) → f.length ≤ cf → Calls Try.prog 15 #[.agg #[.int .i64 n, .slice A es.length c], .slice Af f.length cf] W fun e w' => e = .returned (.tuple #[.int .i64 a, .int .i64 b, .int .i64 d]) ∧ Below W.heap.size W w')
    (H2 : ∀ Af cf W, Reads W A (pcells es) → Reads W Af (icells f) → f.length ≤ cf → Calls Try.prog 45 #[.agg #[.int .i64 n, .slice A es.length c], .slice Af f.length cf] W fun e w' => e = .returned (.tuple #[.int .i64 a, .int .i64 b, .int .i64 d]) ∧ Below W.heap.size W w')
    (H3 : ∀ Af cf W, Reads W A (pcells es) → Reads W Af (icells f) → f.length ≤ cf → Calls Try.prog 46 #[.agg #[.int .i64 n, .slice A es.length c], .slice Af f.length cf] W (RowR (plcells pl) pl.length d W))
    (H4 : ∀ Af cf W, Reads W A (pcells es) → Reads W Af (icells f) → f.length ≤ cf → Calls Try.prog 47 #[.agg #[.int .i64 n, .slice A es.length c], .slice Af f.length cf] W (RowR (plcells pl) pl.length d W))
    (H5 : ∀ Af cf W, Reads W A (pcells es) → Reads W Af (icells f) → f.length ≤ cf → Calls Try.prog 48 #[.agg #[.int .i64 n, .slice A es.length c], .slice Af f.length cf] W (RowR (pcells el) el.length d W))
    (H6 : ∀ Af cf W, Reads W A (pcells es) → Reads W Af (icells f) → f.length ≤ cf → Calls Try.prog 49 #[.agg #[.int .i64 n, .slice A es.length c], .slice Af f.length cf] W (RowR (pcells el) el.length d W)) :
    Calls Try.prog 8 #[.agg #[.int .i64 n, .slice A es.length c], .slice Af f.length cf] w fun e w' => e = .returned (.bool true) ∧ Below w.heap.size w w' := by
  have HA := fun W => awake24 W
  have d1 : decide ((12 : Int) < (es.length : Int)) = false := decide_eq_false (by omega)
  have d2 : decide ((40 : Int) < n) = false := decide_eq_false (by omega)
  have d3 : decide ((40 : Int) < (f.length : Int)) = false := decide_eq_false (by omega)
  have HO := fun W h => ownI f 71 Af cf W h hcf (by omega)
  have HK := fun g W h hG => keptI f 71 g Af cf W h hcf (by omega) hG
  have HP1 := fun A1 A2 c1 c2 W h1 h2 hc1 hc2 => sameP_plain pl pl A1 A2 c1 c2 W h1 h2 hc1 hc2 (by omega) (by omega)
  have HP2 := fun A1 A2 c1 c2 W h1 h2 hc1 hc2 => sameE_plain el el A1 A2 c1 c2 W h1 h2 hc1 hc2 (by omega) (by omega)
  simp only [decide_true] at HP1 HP2
  go_enter Try.func8, Try.ntmps8
  go_upto_region 4 with (first
    | (go_at_call 44; go_loud (
        refine (HO _ (hrf.below ?_)).mono ?_
        · (repeat (first | with_reducible exact Below.refl _ _ | with_reducible assumption | with_reducible refine below_drewN0 ?_ _ | with_reducible refine Below.drew ?_ | with_reducible refine Below.alloc ?_ ?_ _ | with_reducible refine Below.setCell ?_ ?_ _ | go_size | exact Below.size (by assumption)))
        rintro e V ⟨g, rfl, hgW, hG, hb1⟩
        obtain ⟨q0, q1, q2, q3, q4⟩ := blk2 ((hb1.block w.heap.size (by simp)).trans (heap_alloc_new _ _))
        have hbw : Below w.heap.size w V := Below.trans (by (repeat (first | with_reducible exact Below.refl _ _ | with_reducible assumption | with_reducible refine below_drewN0 ?_ _ | with_reducible refine Below.drew ?_ | with_reducible refine Below.alloc ?_ ?_ _ | with_reducible refine Below.setCell ?_ ?_ _ | go_size | exact Below.size (by assumption)))) (hb1.mono (by simp)))))
  have hrI : Reads V (some ⟨g, 0, none⟩) (icells f) := by
    have := reads_blk hG
    rw [icells_append] at this
    exact this.front
  have hcI : f.length ≤ f.length + 3 := by omega
  have hG0 := Lib.hid hG
  have hgl := heap_lt0 hG
  have hrV := hr.below hbw
  have hfV := hrf.below hbw
  clear hG hr hrf HO hb1 q2 q3
  have hcur : Below V.heap.size V V := Below.refl _ _
  have hQ := Lib.hid (fun (W : World) (h : Below V.heap.size V W) => (⟨(h.cell (p := ⟨w.heap.size, 0, none⟩) q4).trans q0, (h.cell (p := ⟨w.heap.size, 1, none⟩) q4).trans q1⟩ : W.cell? ⟨w.heap.size, 0, none⟩ = some (.int .i64 n) ∧ W.cell? ⟨w.heap.size, 1, none⟩ = some (.slice A es.length c)))
  go_wp2_with (first
    | (go_at_call 15; go_loud (refine (H1 _ _ _ (hrV.below ?_) (hrI.below ?_) hcI).mono ?_; exact hcur; exact hcur; rintro e w1 ⟨rfl, hbx⟩; ((first | (have hq := (hr3).below hbx; clear hr3; have hr3 := hq; clear hq) | skip); (first | (have hq := (hr4).below hbx; clear hr4; have hr4 := hq; clear hq) | skip); (first | (have hq := (hr5).below hbx; clear hr5; have hr5 := hq; clear hq) | skip); (first | (have hq := (hr6).below hbx; clear hr6; have hr6 := hq; clear hq) | skip); have hcur' : Below V.heap.size V w1 := Below.trans (by (repeat (first | with_reducible exact Below.refl _ _ | with_reducible assumption | with_reducible refine below_drewN0 ?_ _ | with_reducible refine Below.drew ?_ | with_reducible refine Below.alloc ?_ ?_ _ | with_reducible refine Below.setCell ?_ ?_ _ | go_size | exact Below.size (by assumption)))) (hbx.mono (by have := hcur.size; go_size)); clear hbx hcur; have hcur := hcur'; clear hcur'); obtain ⟨q0, q1⟩ := hQ.out _ hcur))
    | (go_at_call 45; go_loud (refine (H2 _ _ _ (hrV.below ?_) (hfV.below ?_) hcf).mono ?_; exact hcur; exact hcur; rintro e w2 ⟨rfl, hbx⟩; ((first | (have hq := (hr3).below hbx; clear hr3; have hr3 := hq; clear hq) | skip); (first | (have hq := (hr4).below hbx; clear hr4; have hr4 := hq; clear hq) | skip); (first | (have hq := (hr5).below hbx; clear hr5; have hr5 := hq; clear hq) | skip); (first | (have hq := (hr6).below hbx; clear hr6; have hr6 := hq; clear hq) | skip); have hcur' : Below V.heap.size V w2 := Below.trans (by (repeat (first | with_reducible exact Below.refl _ _ | with_reducible assumption | with_reducible refine below_drewN0 ?_ _ | with_reducible refine Below.drew ?_ | with_reducible refine Below.alloc ?_ ?_ _ | with_reducible refine Below.setCell ?_ ?_ _ | go_size | exact Below.size (by assumption)))) (hbx.mono (by have := hcur.size; go_size)); clear hbx hcur; have hcur := hcur'; clear hcur'); obtain ⟨q0, q1⟩ := hQ.out _ hcur))
    | (go_at_call 46; go_loud (refine (H3 _ _ _ (hrV.below ?_) (hrI.below ?_) hcI).mono ?_; exact hcur; exact hcur; rintro e w3 ⟨A3, c3, rfl, hc3, hr3, hbx⟩; have hcur' : Below V.heap.size V w3 := Below.trans hcur (hbx.mono hcur.size); clear hbx hcur; have hcur := hcur'; clear hcur'; obtain ⟨q0, q1⟩ := hQ.out _ hcur))
    | (go_at_call 47; go_loud (refine (H4 _ _ _ (hrV.below ?_) (hfV.below ?_) hcf).mono ?_; exact hcur; exact hcur; rintro e w4 ⟨A4, c4, rfl, hc4, hr4', hbx⟩; ((first | (have hq := (hr3).below hbx; clear hr3; have hr3 := hq; clear hq) | skip); (first | (have hq := (hr4).below hbx; clear hr4; have hr4 := hq; clear hq) | skip); (first | (have hq := (hr5).below hbx; clear hr5; have hr5 := hq; clear hq) | skip); (first | (have hq := (hr6).below hbx; clear hr6; have hr6 := hq; clear hq) | skip); have hcur' : Below V.heap.size V w4 := Below.trans (by (repeat (first | with_reducible exact Below.refl _ _ | with_reducible assumption | with_reducible refine below_drewN0 ?_ _ | with_reducible refine Below.drew ?_ | with_reducible refine Below.alloc ?_ ?_ _ | with_reducible refine Below.setCell ?_ ?_ _ | go_size | exact Below.size (by assumption)))) (hbx.mono (by have := hcur.size; go_size)); clear hbx hcur; have hcur := hcur'; clear hcur'); have hr4 := hr4'; clear hr4'; obtain ⟨q0, q1⟩ := hQ.out _ hcur))
    | (go_at_call 48; go_loud (refine (H5 _ _ _ (hrV.below ?_) (hrI.below ?_) hcI).mono ?_; exact hcur; exact hcur; rintro e w5 ⟨A5, c5, rfl, hc5, hr5', hbx⟩; ((first | (have hq := (hr3).below hbx; clear hr3; have hr3 := hq; clear hq) | skip); (first | (have hq := (hr4).below hbx; clear hr4; have hr4 := hq; clear hq) | skip); (first | (have hq := (hr5).below hbx; clear hr5; have hr5 := hq; clear hq) | skip); (first | (have hq := (hr6).below hbx; clear hr6; have hr6 := hq; clear hq) | skip); have hcur' : Below V.heap.size V w5 := Below.trans (by (repeat (first | with_reducible exact Below.refl _ _ | with_reducible assumption | with_reducible refine below_drewN0 ?_ _ | with_reducible refine Below.drew ?_ | with_reducible refine Below.alloc ?_ ?_ _ | with_reducible refine Below.setCell ?_ ?_ _ | go_size | exact Below.size (by assumption)))) (hbx.mono (by have := hcur.size; go_size)); clear hbx hcur; have hcur := hcur'; clear hcur'); have hr5 := hr5'; clear hr5'; obtain ⟨q0, q1⟩ := hQ.out _ hcur))
    | (go_at_call 49; go_loud (refine (H6 _ _ _ (hrV.below ?_) (hfV.below ?_) hcf).mono ?_; exact hcur; exact hcur; rintro e w6 ⟨A6, c6, rfl, hc6, hr6', hbx⟩; ((first | (have hq := (hr3).below hbx; clear hr3; have hr3 := hq; clear hq) | skip); (first | (have hq := (hr4).below hbx; clear hr4; have hr4 := hq; clear hq) | skip); (first | (have hq := (hr5).below hbx; clear hr5; have hr5 := hq; clear hq) | skip); (first | (have hq := (hr6).below hbx; clear hr6; have hr6 := hq; clear hq) | skip); have hcur' : Below V.heap.size V w6 := Below.trans (by (repeat (first | with_reducible exact Below.refl _ _ | with_reducible assumption | with_reducible refine below_drewN0 ?_ _ | with_reducible refine Below.drew ?_ | with_reducible refine Below.alloc ?_ ?_ _ | with_reducible refine Below.setCell ?_ ?_ _ | go_size | exact Below.size (by assumption)))) (hbx.mono (by have := hcur.size; go_size)); clear hbx hcur; have hcur := hcur'; clear hcur'); have hr6 := hr6'; clear hr6'; obtain ⟨q0, q1⟩ := hQ.out _ hcur))
    | (go_at_call 16; go_loud (refine (HA _).mono ?_; rintro e w7 ⟨rfl, hbx⟩; ((first | (have hq := (hr3).below hbx; clear hr3; have hr3 := hq; clear hq) | skip); (first | (have hq := (hr4).below hbx; clear hr4; have hr4 := hq; clear hq) | skip); (first | (have hq := (hr5).below hbx; clear hr5; have hr5 := hq; clear hq) | skip); (first | (have hq := (hr6).below hbx; clear hr6; have hr6 := hq; clear hq) | skip); have hcur' : Below V.heap.size V w7 := Below.trans (by (repeat (first | with_reducible exact Below.refl _ _ | with_reducible assumption | with_reducible refine below_drewN0 ?_ _ | with_reducible refine Below.drew ?_ | with_reducible refine Below.alloc ?_ ?_ _ | with_reducible refine Below.setCell ?_ ?_ _ | go_size | exact Below.size (by assumption)))) (hbx.mono (by have := hcur.size; go_size)); clear hbx hcur; have hcur := hcur'; clear hcur')))
    | (go_at_call 50; go_loud (refine (HP1 _ _ _ _ _ hr3 hr4 hc3 hc4).mono ?_; rintro e w8 ⟨rfl, hbx⟩; ((first | (have hq := (hr3).below hbx; clear hr3; have hr3 := hq; clear hq) | skip); (first | (have hq := (hr4).below hbx; clear hr4; have hr4 := hq; clear hq) | skip); (first | (have hq := (hr5).below hbx; clear hr5; have hr5 := hq; clear hq) | skip); (first | (have hq := (hr6).below hbx; clear hr6; have hr6 := hq; clear hq) | skip); have hcur' : Below V.heap.size V w8 := Below.trans (by (repeat (first | with_reducible exact Below.refl _ _ | with_reducible assumption | with_reducible refine below_drewN0 ?_ _ | with_reducible refine Below.drew ?_ | with_reducible refine Below.alloc ?_ ?_ _ | with_reducible refine Below.setCell ?_ ?_ _ | go_size | exact Below.size (by assumption)))) (hbx.mono (by have := hcur.size; go_size)); clear hbx hcur; have hcur := hcur'; clear hcur')))
    | (go_at_call 51; go_loud (refine (HP2 _ _ _ _ _ hr5 hr6 hc5 hc6).mono ?_; rintro e w9 ⟨rfl, hbx⟩; ((first | (have hq := (hr3).below hbx; clear hr3; have hr3 := hq; clear hq) | skip); (first | (have hq := (hr4).below hbx; clear hr4; have hr4 := hq; clear hq) | skip); (first | (have hq := (hr5).below hbx; clear hr5; have hr5 := hq; clear hq) | skip); (first | (have hq := (hr6).below hbx; clear hr6; have hr6 := hq; clear hq) | skip); have hcur' : Below V.heap.size V w9 := Below.trans (by (repeat (first | with_reducible exact Below.refl _ _ | with_reducible assumption | with_reducible refine below_drewN0 ?_ _ | with_reducible refine Below.drew ?_ | with_reducible refine Below.alloc ?_ ?_ _ | with_reducible refine Below.setCell ?_ ?_ _ | go_size | exact Below.size (by assumption)))) (hbx.mono (by have := hcur.size; go_size)); clear hbx hcur; have hcur := hcur'; clear hcur')))
    | (go_at_call 52; go_loud (refine (HK g _ (hfV.below hcur) ((hcur.block g hgl).trans hG0.out)).mono ?_; rintro e w10 ⟨rfl, hbx⟩; ((first | (have hq := (hr3).below hbx; clear hr3; have hr3 := hq; clear hq) | skip); (first | (have hq := (hr4).below hbx; clear hr4; have hr4 := hq; clear hq) | skip); (first | (have hq := (hr5).below hbx; clear hr5; have hr5 := hq; clear hq) | skip); (first | (have hq := (hr6).below hbx; clear hr6; have hr6 := hq; clear hq) | skip); have hcur' : Below V.heap.size V w10 := Below.trans (by (repeat (first | with_reducible exact Below.refl _ _ | with_reducible assumption | with_reducible refine below_drewN0 ?_ _ | with_reducible refine Below.drew ?_ | with_reducible refine Below.alloc ?_ ?_ _ | with_reducible refine Below.setCell ?_ ?_ _ | go_size | exact Below.size (by assumption)))) (hbx.mono (by have := hcur.size; go_size)); clear hbx hcur; have hcur := hcur'; clear hcur'))))
  go_ret
  exact ⟨by simp, hbw.trans (hcur.mono hbw.size)⟩

theorem gt_out (n : Int) (es : List (Int × Int)) (f : List Int) (A Af : Option Addr) (c cf : Nat) (w : World) (h : 12 < es.length ∨ 40 < n ∨ 40 < f.length) :
    Calls Try.prog 8 #[.agg #[.int .i64 n, .slice A es.length c], .slice Af f.length cf] w fun e w' => e = .returned (.bool true) ∧ Below w.heap.size w w' := by
  have HA := fun W => awake24 W
  by_cases h1 : 12 < es.length
  · have d1 : decide ((12 : Int) < (es.length : Int)) = true := decide_eq_true (by omega)
    clear h
    go_enter Try.func8, Try.ntmps8
    go_wp2_with (first | (go_at_call 16; refine (HA _).mono ?_; rintro e w1 ⟨rfl, hb1⟩))
    go_ret
    exact ⟨rfl, Below.trans (by (repeat (first | with_reducible exact Below.refl _ _ | with_reducible assumption | with_reducible refine below_drewN0 ?_ _ | with_reducible refine Below.drew ?_ | with_reducible refine Below.alloc ?_ ?_ _ | with_reducible refine Below.setCell ?_ ?_ _ | go_size | exact Below.size (by assumption)))) (hb1.mono (by simp))⟩
  have d1 : decide ((12 : Int) < (es.length : Int)) = false := decide_eq_false (by omega)
  by_cases h2 : 40 < n
  · have d2 : decide ((40 : Int) < n) = true := decide_eq_true h2
    clear h
    go_enter Try.func8, Try.ntmps8
    go_wp2_with (first | (go_at_call 16; refine (HA _).mono ?_; rintro e w1 ⟨rfl, hb1⟩))
    go_ret
    exact ⟨rfl, Below.trans (by (repeat (first | with_reducible exact Below.refl _ _ | with_reducible assumption | with_reducible refine below_drewN0 ?_ _ | with_reducible refine Below.drew ?_ | with_reducible refine Below.alloc ?_ ?_ _ | with_reducible refine Below.setCell ?_ ?_ _ | go_size | exact Below.size (by assumption)))) (hb1.mono (by simp))⟩
  have d2 : decide ((40 : Int) < n) = false := decide_eq_false h2
  have d3 : decide ((40 : Int) < (f.length : Int)) = true := decide_eq_true (by omega)
  clear h
  go_enter Try.func8, Try.ntmps8
  go_wp2_with (first | (go_at_call 16; refine (HA _).mono ?_; rintro e w1 ⟨rfl, hb1⟩))
  go_ret
  exact ⟨rfl, Below.trans (by (repeat (first | with_reducible exact Below.refl _ _ | with_reducible assumption | with_reducible refine below_drewN0 ?_ _ | with_reducible refine Below.drew ?_ | with_reducible refine Below.alloc ?_ ?_ _ | with_reducible refine Below.setCell ?_ ?_ _ | go_size | exact Below.size (by assumption)))) (hb1.mono (by simp))⟩

theorem gtells_any (n : Int) (es : List (Int × Int)) (f : List Int) (A Af : Option Addr) (c cf : Nat) (w : World) (hr : Reads w A (pcells es)) (hc : es.length ≤ c) (hrf : Reads w Af (icells f)) (hcf : f.length ≤ cf) :
    Calls Try.prog 8 #[.agg #[.int .i64 n, .slice A es.length c], .slice Af f.length cf] w fun e w' => e = .returned (.bool true) ∧ Below w.heap.size w w' := by
  by_cases ho : 12 < es.length ∨ 40 < n ∨ 40 < f.length
  · exact gt_out n es f A Af c cf w ho
  by_cases hde : degErr n es f = 0
  · obtain ⟨m, rfl⟩ : ∃ m : Nat, n = m := ⟨n.toNat, by
      have h : RightP n es := (right_iff _ _).1 (by
        unfold degErr at hde
        by_cases h : rightB n es = false
        · rw [if_pos h] at hde; omega
        · simpa using h)
      have := h.n0; omega⟩
    obtain ⟨hP, hfl, hfb, hs⟩ := degErr_small hde
    have hn := gad_len m es f hde (by omega)
    have hG := gad_ok m es f hde
    have hnl := not_large m es f hde (by omega)
    have hel : (edgesL m es f).length ≤ 90000 := by
      have h1 : edgesL m es f = sortL (layL (gadF m es f) (ports m es) (plC m es f) m es) := (lay_sorted hG).symm
      rw [h1, (sortL_perm _).length_eq]; exact lay_len m es f hde (by omega)
    have hsz : sizeOf3 m es f = (gN (ports m es) f m, gE (ports m es) f es.length m, 0) := by
      unfold sizeOf3; rw [if_neg (by simpa using hde), if_neg (by omega)]
    have toR : ∀ W e w', PlPost m es f W e w' → RowR (plcells (plAll m es f)) (plAll m es f).length 0 W e w' := fun W e w' ⟨v, h1, h2, h3⟩ => by
      obtain ⟨A1, c1, rfl, hc1, hr1⟩ := own_reads0 h2
      exact ⟨A1, c1, h1, hc1, hr1, h3⟩
    refine gt_walk m _ _ 0 (plAll m es f) (edgesL m es f) es f A Af c cf w hr hc hrf hcf (by omega) (by omega) (by omega) (by omega) (by omega)
      (fun Af cf W h1 h2 h3 => ?_) (fun Af cf W h1 h2 h3 => refSize_any m es f A Af c cf W h1 hc (by omega) h2 h3 (by omega) hde) (fun Af cf W h1 h2 h3 => (places_any m es f A Af c cf W h1 hc (by omega) h2 h3 (by omega) hde).mono fun e w' h => toR W e w' h)
      (fun Af cf W h1 h2 h3 => (refPlaces_any m es f A Af c cf W h1 hc (by omega) h2 h3 (by omega) hde).mono fun e w' h => toR W e w' h) (fun Af cf W h1 h2 h3 => edges_any m es f A Af c cf W h1 hc (by omega) h2 h3 (by omega) hde)
      (fun Af cf W h1 h2 h3 => refEdges_any m es f A Af c cf W h1 hc (by omega) h2 h3 (by omega) hde)
    have h4 := size_any m es f A Af c cf W h1 hc (by omega) h2 h3 (by omega)
    rw [hsz] at h4
    exact h4
  · have HN := fun Af cf (hcf : f.length ≤ cf) W h1 h2 => new_err n es f A Af c cf W h1 hc (by omega) h2 hcf (by omega) hde
    have HS := fun Af cf (hcf : f.length ≤ cf) W h1 h2 => refSize_err n 0 es f A Af c cf W h1 hc (by omega) h2 hcf (by omega) hde
    have HP := fun Af cf (hcf : f.length ≤ cf) W h1 h2 => refPlaces_err n _ 0 0 es f A Af c cf W h1 h2 hde (HS Af cf hcf)
    have toP : ∀ (d : Int) (W : World) e w', (e = .returned (.tuple #[.slice none 0 0, .int .i64 d]) ∧ Below W.heap.size W w') → RowR (plcells []) ([] : List Pl).length d W e w' := fun d W e w' ⟨h1, h2⟩ => ⟨none, 0, h1, Nat.le_refl _, .inl rfl, h2⟩
    have toE : ∀ (d : Int) (W : World) e w', (e = .returned (.tuple #[.slice none 0 0, .int .i64 d]) ∧ Below W.heap.size W w') → RowR (pcells []) ([] : List PE).length d W e w' := fun d W e w' ⟨h1, h2⟩ => ⟨none, 0, h1, Nat.le_refl _, .inl rfl, h2⟩
    exact gt_walk n 0 0 (degErr n es f) [] [] es f A Af c cf w hr hc hrf hcf (by omega) (by omega) (by omega) (by simp) (by simp)
      (fun Af cf W h1 h2 h3 => size_err n _ es f A Af c cf W h1 h2 hde (HN Af cf h3)) (fun Af cf W h1 h2 h3 => HS Af cf h3 W h1 h2)
      (fun Af cf W h1 h2 h3 => (places_err n _ es f A Af c cf W h1 h2 hde (HN Af cf h3)).mono fun e w' h => toP _ W e w' h)
      (fun Af cf W h1 h2 h3 => (HP Af cf h3 W h1 h2).mono fun e w' h => toP _ W e w' h)
      (fun Af cf W h1 h2 h3 => (edges_err n _ es f A Af c cf W h1 h2 hde (HN Af cf h3)).mono fun e w' h => toE _ W e w' h)
      (fun Af cf W h1 h2 h3 => (refEdges_err n _ es f A Af c cf W h1 h2 hde (HP Af cf h3)).mono fun e w' h => toE _ W e w' h)
end Go.Proofs.Ytglhdoibglafbaa
