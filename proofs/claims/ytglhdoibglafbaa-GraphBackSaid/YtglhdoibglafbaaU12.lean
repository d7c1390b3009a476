/- Walk of partitionCmpFunc at edges. -/
import Derived.Test.YtglhdoibglafbaaU10
import Derived.Shelf.SlSortCmp.Xorshift
import Derived.Laws.Bits64b
namespace Go.Proofs.Ytglhdoibglafbaa
open Go Go.RowKit
set_option maxRecDepth 100000
set_option linter.unusedVariables false
set_option linter.unusedSimpArgs false

theorem scanUp_go {p : PE → Bool} {d : Array PE} {j i : Nat} (h : i ≤ j) (hp : p d[i]! = true) : Sort.scanUp p d j i = Sort.scanUp p d j (i + 1) := by
  rw [Sort.scanUp.eq_1, if_pos (by simp [h, hp])]
theorem scanUp_stop {p : PE → Bool} {d : Array PE} {j i : Nat} (h : j < i ∨ p d[i]! = false) : Sort.scanUp p d j i = i := by
  rw [Sort.scanUp.eq_1, if_neg]
  rcases h with h | h
  · simp; omega
  · simp [h]
theorem scanDown_go {p : PE → Bool} {d : Array PE} {j i : Nat} (h : i ≤ j + 1) (hp : p d[j + 1]! = true) : Sort.scanDown p d i (j + 1) = Sort.scanDown p d i j := by
  rw [Sort.scanDown, if_pos (by simp [h, hp])]
theorem scanDown_stop {p : PE → Bool} {d : Array PE} {j i : Nat} (h : j < i ∨ p d[j]! = false) : Sort.scanDown p d i j = j := by
  cases j with
  | zero => rfl
  | succ j =>
    rw [Sort.scanDown, if_neg]
    rcases h with h | h
    · simp; omega
    · simp [h]

/- 'for i <= j && P(data[i]) { i++ }' in slot SI, the test's value in slot TB; behind it CONT goes on, with i2. -/
/- 'for i <= j && P(data[j]) { j-- }' in slot SJ. -/

set_option maxHeartbeats 8000000 in
theorem part_any (w0 W : World) (g : Nat) (T : TypeId) (rest : List Value) (d : Array PE) (c a l pivot : Nat) (hS : SR w0 g T rest d W) (hl : 12 < l) (hb : a + l ≤ d.size) (hm : d.size ≤ 1000000) (hp1 : a ≤ pivot) (hp2 : pivot < a + l) :
    Calls Try.prog 114 #[.slice (some ⟨g, 0, none⟩) d.size c, .int .i64 a, .int .i64 ((a : Int) + (l : Int)), .int .i64 pivot, (Value.func (.func 68) #[.agg #[]] #[])] W fun e w' => ∃ (mid : Nat) (bb : Bool), e = .returned (.tuple #[.int .i64 mid, .bool bb]) ∧ (Sort.partition ltP d a (a + l) pivot).1 = mid ∧ SR w0 g T rest (Sort.partition ltP d a (a + l) pivot).2.2 w' := by
  have hS' := Lib.hid hS
  clear hS
  have hfst := Lib.hid (Sort.partition_fst (lt := ltP) d a (a + l) pivot)
  have harr := Lib.hid (Sort.partition_arr (lt := ltP) d a (a + l) pivot)
  obtain ⟨r, hr⟩ : ∃ r, r = Sort.partLoop ltP a (a + 1) (a + l - 1) (Sort.swp d a pivot) := ⟨_, rfl⟩
  rw [← hr] at hfst harr
  have HR := Lib.hid hr
  clear hr
  obtain ⟨wr, rfl⟩ : ∃ z, z = W := ⟨_, rfl⟩
  have hS : Hid (SR w0 g T rest d wr) := hS'
  clear hS'
  obtain ⟨dk, hdk⟩ : ∃ dk, dk = d := ⟨_, rfl⟩
  rw [← hdk] at hS HR
  have hsz : dk.size = d.size := by rw [hdk]
  have HDK := Lib.hid hdk
  clear hdk
  (have : (0 : Int) ≤ (a : Int) := by omega
   have : ((a : Int) : Int).toNat = a := by omega
   have : ((a : Int) : Int) < (d.size : Int) := by omega
   have : IntKind.i64.wrap ((a : Int) : Int) = (a : Int) := by rw [IntKind.wrap_i64]; omega)
  (have : (0 : Int) ≤ (pivot : Int) := by omega
   have : ((pivot : Int) : Int).toNat = pivot := by omega
   have : ((pivot : Int) : Int) < (d.size : Int) := by omega
   have : IntKind.i64.wrap ((pivot : Int) : Int) = (pivot : Int) := by rw [IntKind.wrap_i64]; omega)
  go_enter Try.func114, Try.ntmps114
  go_wp2_with fail
  ((obtain ⟨x, hx⟩ : ∃ x : PE, x = dk[a]! := ⟨_, rfl⟩
    obtain ⟨y, hy⟩ : ∃ y : PE, y = dk[pivot]! := ⟨_, rfl⟩
    have x0 := hS.out.cell0 (i := a) (by omega)
    have x1 := hS.out.cell1 (i := a) (by omega)
    have y0 := hS.out.cell0 (i := pivot) (by omega)
    have y1 := hS.out.cell1 (i := pivot) (by omega)
    rw [← hx] at x0 x1
    rw [← hy] at y0 y1
    have HX := Lib.hid hx
    have HY := Lib.hid hy
    clear hx hy)
   have z1 := hS.out.frozen ((a) * 2)
   have z2 := hS.out.frozen ((a) * 2 + 1)
   have z3 := hS.out.frozen ((pivot) * 2)
   have z4 := hS.out.frozen ((pivot) * 2 + 1)
   have hw1 := hS.out.swx (i := a) (j := pivot) (by omega) (by omega) HX.out HY.out
   have hw2 := hS.out.swx' (i := a) (j := pivot) (by omega) (by omega) HX.out HY.out
   have hA := (hS.out.put (i := a) (by omega) y).drew
   have hB := (hS.out.put (i := pivot) (by omega) x).drew
   have a0 := hA.cell0 (i := pivot) (by rw [Array.size_setIfInBounds]; omega)
   have a1 := hA.cell1 (i := pivot) (by rw [Array.size_setIfInBounds]; omega)
   have a2 := hA.frozen ((pivot) * 2)
   have a3 := hA.frozen ((pivot) * 2 + 1)
   have b0 := hB.cell0 (i := a) (by rw [Array.size_setIfInBounds]; omega)
   have b1 := hB.cell1 (i := a) (by rw [Array.size_setIfInBounds]; omega)
   have b2 := hB.frozen ((a) * 2)
   have b3 := hB.frozen ((a) * 2 + 1)
   have hA' := hS.out.put (i := a) (by omega) y
   have hB' := hS.out.put (i := pivot) (by omega) x
   have a4 := hA'.cell0 (i := pivot) (by rw [Array.size_setIfInBounds]; omega)
   have a5 := hA'.cell1 (i := pivot) (by rw [Array.size_setIfInBounds]; omega)
   have a6 := hA'.frozen ((pivot) * 2)
   have a7 := hA'.frozen ((pivot) * 2 + 1)
   have b4 := hB'.cell0 (i := a) (by rw [Array.size_setIfInBounds]; omega)
   have b5 := hB'.cell1 (i := a) (by rw [Array.size_setIfInBounds]; omega)
   have b6 := hB'.frozen ((a) * 2)
   have b7 := hB'.frozen ((a) * 2 + 1)
   clear hA hB hA' hB'
   go_cut [10] (fun v10 wc => v10 = Value.int .i64 0 ∧ Hid (SR w0 g T rest (Sort.swp dk (a) (pivot)) wc))
   case first =>
     go_region
     all_goals
       go_wp2_with fail
       go_meet
       refine ⟨by first | rfl | exact ⟨rfl, rfl⟩ | exact ⟨rfl, rfl, rfl⟩, ?_⟩
       unfold Hid
       first | (with_reducible exact hw1.drew) | (with_reducible exact hw2.drew) | (with_reducible exact hw1) | (with_reducible exact hw2)
   clear a0 a1 a2 a3 b0 b1 b2 b3 a4 a5 a6 a7 b4 b5 b6 b7 hw1 hw2 z1 z2 z3 z4 x0 x1 y0 y1 HX HY)
  case rest =>
    obtain ⟨rfl, hS2⟩ := hcut
    clear hS
    obtain ⟨wr, rfl⟩ : ∃ z, z = wc := ⟨_, rfl⟩
    have hsz2 : (Sort.swp dk a pivot).size = d.size := by rw [Sort.size_swp]; exact hsz
    clear hsz
    generalize Sort.swp dk a pivot = dk at *
    have hS := hS2
    have hsz := hsz2
    obtain ⟨i, hi⟩ : ∃ i, i = a + 1 := ⟨_, rfl⟩
    obtain ⟨j, hj⟩ : ∃ j, j = a + l - 1 := ⟨_, rfl⟩
    rw [← hi, ← hj] at HR
    have hi1 : (a : Int) + 1 = (i : Int) := by omega
    have hj1 : (a : Int) + (l : Int) - 1 = (j : Int) := by omega
    have w1 : IntKind.i64.wrap ((a : Int) + 1) = (i : Int) := by rw [IntKind.wrap_i64]; omega
    have w2 : IntKind.i64.wrap ((a : Int) + (l : Int) - 1) = (j : Int) := by rw [IntKind.wrap_i64]; omega
    have hia : a + 1 ≤ i := by omega
    have hib : i ≤ d.size + 1 := by omega
    have hjb : j < d.size := by omega
    clear hi hj
    go_upto_region 3 with fail
    (try rw [hi1])
    (try rw [hj1])
    clear hi1 hj1 w1 w2
    (go_loopw [12] (fun v wx => ∃ (i2 : Nat), i ≤ i2 ∧ (i2 ≤ j + 1 ∨ i2 = i) ∧ v = .int .i64 i2 ∧ Hid (Sort.scanUp (fun x => ltP x dk[a]!) dk j i = Sort.scanUp (fun x => ltP x dk[a]!) dk j i2) ∧ Hid (SR w0 g T rest dk wx)) (fun v _ => (j + 1 : Nat) - (intOf v).toNat)
     case atStart => exact ⟨i, Nat.le_refl _, .inr rfl, rfl, rfl, hS⟩
     case round =>
       clear hS
       obtain ⟨i2, hi2, hi3, rfl, hU, hS⟩ := hrel
       go_upto_region 3 with fail
       go_cut [12, 47] (fun vi vb wc => ∃ bb : Bool, vi = .int .i64 i2 ∧ vb = .bool bb ∧ Hid ((bb = true → i2 ≤ j ∧ (fun x => ltP x dk[a]!) dk[i2]! = true) ∧ (bb = false → j < i2 ∨ (fun x => ltP x dk[a]!) dk[i2]! = false)) ∧ Hid (SR w0 g T rest dk wc))
       case first =>
         by_cases hij : i2 ≤ j
         · have g1 : decide ((i2 : Int) ≤ (j : Int)) = true := decide_eq_true (by omega)
           have g2 : decide (i2 ≤ j) = true := decide_eq_true hij
           have aI : (a : Int) < (d.size : Int) := by omega
           have iI : (i2 : Int) < (d.size : Int) := by omega
           ((obtain ⟨x, hx⟩ : ∃ x : PE, x = dk[i2]! := ⟨_, rfl⟩
             obtain ⟨y, hy⟩ : ∃ y : PE, y = dk[a]! := ⟨_, rfl⟩
             have x0 := hS.out.cell0 (i := i2) (by omega)
             have x1 := hS.out.cell1 (i := i2) (by omega)
             have y0 := hS.out.cell0 (i := a) (by omega)
             have y1 := hS.out.cell1 (i := a) (by omega)
             rw [← hx] at x0 x1
             rw [← hy] at y0 y1
             have HX := Lib.hid hx
             have HY := Lib.hid hy
             clear hx hy)
            have HC := fun W => compareE x.1 x.2 y.1 y.2 W
            have hlt : Hid (ltP dk[i2]! dk[a]! = decide (cmpE x.1 x.2 y.1 y.2 < 0)) := by unfold Hid; rw [← HX.out, ← HY.out]; rfl
            have hgl := hS.out.lt
            have HK := Lib.hid (fun (W' : World) (h : Below wr.heap.size wr W') => (⟨(h.cell (p := ⟨g, (i2) * 2, none⟩) hgl).trans x0, (h.cell (p := ⟨g, (i2) * 2 + 1, none⟩) hgl).trans x1, (h.cell (p := ⟨g, (a) * 2, none⟩) hgl).trans y0, (h.cell (p := ⟨g, (a) * 2 + 1, none⟩) hgl).trans y1⟩ :
              W'.cell? ⟨g, (i2) * 2, none⟩ = some (.int .i64 x.1) ∧ W'.cell? ⟨g, (i2) * 2 + 1, none⟩ = some (.int .i64 x.2) ∧ W'.cell? ⟨g, (a) * 2, none⟩ = some (.int .i64 y.1) ∧ W'.cell? ⟨g, (a) * 2 + 1, none⟩ = some (.int .i64 y.2)))
            generalize cmpE x.1 x.2 y.1 y.2 = cp at HC hlt
            (try go_wp2_with fail)
            go_region_held3 (fun w' => w'.cell? ⟨g, (i2) * 2, none⟩ = some (.int .i64 x.1) ∧ w'.cell? ⟨g, (i2) * 2 + 1, none⟩ = some (.int .i64 x.2) ∧ w'.cell? ⟨g, (a) * 2, none⟩ = some (.int .i64 y.1) ∧ w'.cell? ⟨g, (a) * 2 + 1, none⟩ = some (.int .i64 y.2))
              (first | exact ⟨x0, x1, y0, y1⟩ | exact HK.out _ hbT | (refine HK.out _ ?_; (repeat (first | with_reducible exact Below.refl _ _ | with_reducible assumption | with_reducible refine below_drewN0 ?_ _ | with_reducible refine Below.drew ?_ | with_reducible refine Below.alloc ?_ ?_ _ | with_reducible refine Below.setCell ?_ ?_ _ | go_size | exact Below.size (by assumption))); done))
              (first | (go_at_call 68; go_loud (refine (HC _).mono ?_; rintro e w1 ⟨rfl, hbc⟩; have hbT : Below wr.heap.size wr w1 := Below.trans (by (repeat (first | with_reducible exact Below.refl _ _ | with_reducible assumption | with_reducible refine below_drewN0 ?_ _ | with_reducible refine Below.drew ?_ | with_reducible refine Below.alloc ?_ ?_ _ | with_reducible refine Below.setCell ?_ ?_ _ | go_size | exact Below.size (by assumption)))) (hbc.mono (by go_size)))))
            have hS1 := Lib.hid (hS.out.below hbT)
            clear HC HK x0 x1 y0 y1)
           have hP : (fun x => ltP x dk[a]!) dk[i2]! = decide (cp < 0) := by simp [hlt.out]
           have HP := Lib.hid hP
           clear hP
           go_wp2_with fail
           go_meet
           exact ⟨decide (cp < 0), rfl, rfl, ⟨fun h => ⟨hij, HP.out.trans h⟩, fun h => .inr (HP.out.trans h)⟩, hS1⟩
         · have g1 : decide ((i2 : Int) ≤ (j : Int)) = false := decide_eq_false (by omega)
           have g2 : decide (i2 ≤ j) = false := decide_eq_false hij
           go_wp2_with fail
           go_quiet (fail)
           go_wp2_with fail
           go_meet
           exact ⟨false, rfl, rfl, ⟨fun h => (by cases h), fun _ => .inl (by omega)⟩, hS⟩
       case rest =>
         clear hS
         obtain ⟨bb, rfl, rfl, hBB, hS⟩ := hcut
         obtain ⟨wr, rfl⟩ : ∃ z, z = wc := ⟨_, rfl⟩
         cases bb
         · have hU3 := Lib.hid (hU.out.trans (scanUp_stop (hBB.out.2 rfl)))
           clear hU hBB
           (obtain ⟨i0, rfl⟩ : ∃ z, z = i := ⟨_, rfl⟩
            obtain ⟨i, rfl⟩ : ∃ z, z = i2 := ⟨_, rfl⟩
            go_wp2_with fail
            (go_loopw [13] (fun v wx => ∃ (j2 : Nat), j2 ≤ j ∧ v = .int .i64 j2 ∧ Hid (Sort.scanDown (fun x => !ltP x dk[a]!) dk i j = Sort.scanDown (fun x => !ltP x dk[a]!) dk i j2) ∧ Hid (SR w0 g T rest dk wx)) (fun v _ => (intOf v).toNat)
             case atStart => exact ⟨j, Nat.le_refl _, rfl, rfl, hS⟩
             case round =>
               clear hS
               obtain ⟨j2, hj2, rfl, hD, hS⟩ := hrel
               go_upto_region 5 with fail
               go_cut [13, 66] (fun vj vb wc => ∃ bb : Bool, vj = .int .i64 j2 ∧ vb = .bool bb ∧ Hid ((bb = true → i ≤ j2 ∧ (fun x => !ltP x dk[a]!) dk[j2]! = true) ∧ (bb = false → j2 < i ∨ (fun x => !ltP x dk[a]!) dk[j2]! = false)) ∧ Hid (SR w0 g T rest dk wc))
               case first =>
                 by_cases hij : i ≤ j2
                 · have g1 : decide ((i : Int) ≤ (j2 : Int)) = true := decide_eq_true (by omega)
                   have g2 : decide (i ≤ j2) = true := decide_eq_true hij
                   have aI : (a : Int) < (d.size : Int) := by omega
                   have iI : (j2 : Int) < (d.size : Int) := by omega
                   ((obtain ⟨x, hx⟩ : ∃ x : PE, x = dk[j2]! := ⟨_, rfl⟩
                     obtain ⟨y, hy⟩ : ∃ y : PE, y = dk[a]! := ⟨_, rfl⟩
                     have x0 := hS.out.cell0 (i := j2) (by omega)
                     have x1 := hS.out.cell1 (i := j2) (by omega)
                     have y0 := hS.out.cell0 (i := a) (by omega)
                     have y1 := hS.out.cell1 (i := a) (by omega)
                     rw [← hx] at x0 x1
                     rw [← hy] at y0 y1
                     have HX := Lib.hid hx
                     have HY := Lib.hid hy
                     clear hx hy)
                    have HC := fun W => compareE x.1 x.2 y.1 y.2 W
                    have hlt : Hid (ltP dk[j2]! dk[a]! = decide (cmpE x.1 x.2 y.1 y.2 < 0)) := by unfold Hid; rw [← HX.out, ← HY.out]; rfl
                    have hgl := hS.out.lt
                    have HK := Lib.hid (fun (W' : World) (h : Below wr.heap.size wr W') => (⟨(h.cell (p := ⟨g, (j2) * 2, none⟩) hgl).trans x0, (h.cell (p := ⟨g, (j2) * 2 + 1, none⟩) hgl).trans x1, (h.cell (p := ⟨g, (a) * 2, none⟩) hgl).trans y0, (h.cell (p := ⟨g, (a) * 2 + 1, none⟩) hgl).trans y1⟩ :
                      W'.cell? ⟨g, (j2) * 2, none⟩ = some (.int .i64 x.1) ∧ W'.cell? ⟨g, (j2) * 2 + 1, none⟩ = some (.int .i64 x.2) ∧ W'.cell? ⟨g, (a) * 2, none⟩ = some (.int .i64 y.1) ∧ W'.cell? ⟨g, (a) * 2 + 1, none⟩ = some (.int .i64 y.2)))
                    generalize cmpE x.1 x.2 y.1 y.2 = cp at HC hlt
                    (try go_wp2_with fail)
                    go_region_held3 (fun w' => w'.cell? ⟨g, (j2) * 2, none⟩ = some (.int .i64 x.1) ∧ w'.cell? ⟨g, (j2) * 2 + 1, none⟩ = some (.int .i64 x.2) ∧ w'.cell? ⟨g, (a) * 2, none⟩ = some (.int .i64 y.1) ∧ w'.cell? ⟨g, (a) * 2 + 1, none⟩ = some (.int .i64 y.2))
                      (first | exact ⟨x0, x1, y0, y1⟩ | exact HK.out _ hbT | (refine HK.out _ ?_; (repeat (first | with_reducible exact Below.refl _ _ | with_reducible assumption | with_reducible refine below_drewN0 ?_ _ | with_reducible refine Below.drew ?_ | with_reducible refine Below.alloc ?_ ?_ _ | with_reducible refine Below.setCell ?_ ?_ _ | go_size | exact Below.size (by assumption))); done))
                      (first | (go_at_call 68; go_loud (refine (HC _).mono ?_; rintro e w1 ⟨rfl, hbc⟩; have hbT : Below wr.heap.size wr w1 := Below.trans (by (repeat (first | with_reducible exact Below.refl _ _ | with_reducible assumption | with_reducible refine below_drewN0 ?_ _ | with_reducible refine Below.drew ?_ | with_reducible refine Below.alloc ?_ ?_ _ | with_reducible refine Below.setCell ?_ ?_ _ | go_size | exact Below.size (by assumption)))) (hbc.mono (by go_size)))))
                    have hS1 := Lib.hid (hS.out.below hbT)
                    clear HC HK x0 x1 y0 y1)
                   have hP : (fun x => !ltP x dk[a]!) dk[j2]! = (!decide (cp < 0)) := by simp [hlt.out]
                   have HP := Lib.hid hP
                   clear hP
                   go_wp2_with fail
                   go_meet
                   exact ⟨(!decide (cp < 0)), rfl, rfl, ⟨fun h => ⟨hij, HP.out.trans h⟩, fun h => .inr (HP.out.trans h)⟩, hS1⟩
                 · have g1 : decide ((i : Int) ≤ (j2 : Int)) = false := decide_eq_false (by omega)
                   have g2 : decide (i ≤ j2) = false := decide_eq_false hij
                   go_wp2_with fail
                   go_quiet (fail)
                   go_wp2_with fail
                   go_meet
                   exact ⟨false, rfl, rfl, ⟨fun h => (by cases h), fun _ => .inl (by omega)⟩, hS⟩
               case rest =>
                 clear hS
                 obtain ⟨bb, rfl, rfl, hBB, hS⟩ := hcut
                 obtain ⟨wr, rfl⟩ : ∃ z, z = wc := ⟨_, rfl⟩
                 cases bb
                 · have hD3 := Lib.hid (hD.out.trans (scanDown_stop (hBB.out.2 rfl)))
                   clear hD hBB
                   (obtain ⟨j0, rfl⟩ : ∃ z, z = j := ⟨_, rfl⟩
                    obtain ⟨j, rfl⟩ : ∃ z, z = j2 := ⟨_, rfl⟩
                    have hPL := Lib.hid (Sort.partLoop_eq (lt := ltP) a i0 j0 dk)
                    rw [hU3.out, hD3.out, ← HR.out] at hPL
                    clear hU3 hD3
                    by_cases hij : j < i
                    · have jiI : (j : Int) < (i : Int) := by omega
                      have hr1 : Hid (r = (j, dk)) := by
                        unfold Hid
                        rw [hPL.out, if_pos hij]
                      clear hPL
                      (have : (0 : Int) ≤ (j : Int) := by omega
                       have : ((j : Int) : Int).toNat = j := by omega
                       have : ((j : Int) : Int) < (d.size : Int) := by omega
                       have : IntKind.i64.wrap ((j : Int) : Int) = (j : Int) := by rw [IntKind.wrap_i64]; omega)
                      go_upto_region 8 with fail
                      ((obtain ⟨x, hx⟩ : ∃ x : PE, x = dk[j]! := ⟨_, rfl⟩
                        obtain ⟨y, hy⟩ : ∃ y : PE, y = dk[a]! := ⟨_, rfl⟩
                        have x0 := hS.out.cell0 (i := j) (by omega)
                        have x1 := hS.out.cell1 (i := j) (by omega)
                        have y0 := hS.out.cell0 (i := a) (by omega)
                        have y1 := hS.out.cell1 (i := a) (by omega)
                        rw [← hx] at x0 x1
                        rw [← hy] at y0 y1
                        have HX := Lib.hid hx
                        have HY := Lib.hid hy
                        clear hx hy)
                       have z1 := hS.out.frozen ((j) * 2)
                       have z2 := hS.out.frozen ((j) * 2 + 1)
                       have z3 := hS.out.frozen ((a) * 2)
                       have z4 := hS.out.frozen ((a) * 2 + 1)
                       have hw1 := hS.out.swx (i := j) (j := a) (by omega) (by omega) HX.out HY.out
                       have hw2 := hS.out.swx' (i := j) (j := a) (by omega) (by omega) HX.out HY.out
                       have hA := (hS.out.put (i := j) (by omega) y).drew
                       have hB := (hS.out.put (i := a) (by omega) x).drew
                       have a0 := hA.cell0 (i := a) (by rw [Array.size_setIfInBounds]; omega)
                       have a1 := hA.cell1 (i := a) (by rw [Array.size_setIfInBounds]; omega)
                       have a2 := hA.frozen ((a) * 2)
                       have a3 := hA.frozen ((a) * 2 + 1)
                       have b0 := hB.cell0 (i := j) (by rw [Array.size_setIfInBounds]; omega)
                       have b1 := hB.cell1 (i := j) (by rw [Array.size_setIfInBounds]; omega)
                       have b2 := hB.frozen ((j) * 2)
                       have b3 := hB.frozen ((j) * 2 + 1)
                       have hA' := hS.out.put (i := j) (by omega) y
                       have hB' := hS.out.put (i := a) (by omega) x
                       have a4 := hA'.cell0 (i := a) (by rw [Array.size_setIfInBounds]; omega)
                       have a5 := hA'.cell1 (i := a) (by rw [Array.size_setIfInBounds]; omega)
                       have a6 := hA'.frozen ((a) * 2)
                       have a7 := hA'.frozen ((a) * 2 + 1)
                       have b4 := hB'.cell0 (i := j) (by rw [Array.size_setIfInBounds]; omega)
                       have b5 := hB'.cell1 (i := j) (by rw [Array.size_setIfInBounds]; omega)
                       have b6 := hB'.frozen ((j) * 2)
                       have b7 := hB'.frozen ((j) * 2 + 1)
                       clear hA hB hA' hB'
                       go_cut [10, 11] (fun v10 v11 wc => (v10 = Value.int .i64 0 ∧ v11 = Value.bool false) ∧ Hid (SR w0 g T rest (Sort.swp dk (j) (a)) wc))
                       case first =>
                         go_region
                         all_goals
                           go_wp2_with fail
                           go_meet
                           refine ⟨by first | rfl | exact ⟨rfl, rfl⟩ | exact ⟨rfl, rfl, rfl⟩, ?_⟩
                           unfold Hid
                           first | (with_reducible exact hw1.drew) | (with_reducible exact hw2.drew) | (with_reducible exact hw1) | (with_reducible exact hw2)
                       clear a0 a1 a2 a3 b0 b1 b2 b3 a4 a5 a6 a7 b4 b5 b6 b7 hw1 hw2 z1 z2 z3 z4 x0 x1 y0 y1 HX HY)
                      case rest =>
                        obtain ⟨⟨rfl, rfl⟩, hS2⟩ := hcut
                        go_wp2_with fail
                        go_ret2
                        exact ⟨j, true, rfl, by rw [hfst.out, hr1.out], by rw [harr.out, hr1.out]; exact hS2.out⟩
                    · have jiI : ¬ (j : Int) < (i : Int) := by omega
                      have hr1 : Hid (r = Sort.partLoop ltP a (i + 1) (j - 1) (Sort.swp dk i j)) := by
                        unfold Hid
                        rw [hPL.out, if_neg hij]
                      clear hPL
                      obtain ⟨jp, rfl⟩ : ∃ p, j = p + 1 := ⟨j - 1, by omega⟩
                      (have : (0 : Int) ≤ (i : Int) := by omega
                       have : ((i : Int) : Int).toNat = i := by omega
                       have : ((i : Int) : Int) < (d.size : Int) := by omega
                       have : IntKind.i64.wrap ((i : Int) : Int) = (i : Int) := by rw [IntKind.wrap_i64]; omega)
                      (have : (0 : Int) ≤ ((jp + 1 : Nat) : Int) := by omega
                       have : (((jp + 1 : Nat) : Int) : Int).toNat = jp + 1 := by omega
                       have : (((jp + 1 : Nat) : Int) : Int) < (d.size : Int) := by omega
                       have : IntKind.i64.wrap (((jp + 1 : Nat) : Int) : Int) = ((jp + 1 : Nat) : Int) := by rw [IntKind.wrap_i64]; omega)
                      (have : (0 : Int) ≤ (jp : Int) + 1 := by omega
                       have : ((jp : Int) + 1 : Int).toNat = jp + 1 := by omega
                       have : ((jp : Int) + 1 : Int) < (d.size : Int) := by omega
                       have : IntKind.i64.wrap ((jp : Int) + 1 : Int) = (jp : Int) + 1 := by rw [IntKind.wrap_i64]; omega)
                      go_upto_region 10 with fail
                      ((obtain ⟨x, hx⟩ : ∃ x : PE, x = dk[i]! := ⟨_, rfl⟩
                        obtain ⟨y, hy⟩ : ∃ y : PE, y = dk[jp + 1]! := ⟨_, rfl⟩
                        have x0 := hS.out.cell0 (i := i) (by omega)
                        have x1 := hS.out.cell1 (i := i) (by omega)
                        have y0 := hS.out.cell0 (i := jp + 1) (by omega)
                        have y1 := hS.out.cell1 (i := jp + 1) (by omega)
                        rw [← hx] at x0 x1
                        rw [← hy] at y0 y1
                        have HX := Lib.hid hx
                        have HY := Lib.hid hy
                        clear hx hy)
                       have z1 := hS.out.frozen ((i) * 2)
                       have z2 := hS.out.frozen ((i) * 2 + 1)
                       have z3 := hS.out.frozen ((jp + 1) * 2)
                       have z4 := hS.out.frozen ((jp + 1) * 2 + 1)
                       have hw1 := hS.out.swx (i := i) (j := jp + 1) (by omega) (by omega) HX.out HY.out
                       have hw2 := hS.out.swx' (i := i) (j := jp + 1) (by omega) (by omega) HX.out HY.out
                       have hA := (hS.out.put (i := i) (by omega) y).drew
                       have hB := (hS.out.put (i := jp + 1) (by omega) x).drew
                       have a0 := hA.cell0 (i := jp + 1) (by rw [Array.size_setIfInBounds]; omega)
                       have a1 := hA.cell1 (i := jp + 1) (by rw [Array.size_setIfInBounds]; omega)
                       have a2 := hA.frozen ((jp + 1) * 2)
                       have a3 := hA.frozen ((jp + 1) * 2 + 1)
                       have b0 := hB.cell0 (i := i) (by rw [Array.size_setIfInBounds]; omega)
                       have b1 := hB.cell1 (i := i) (by rw [Array.size_setIfInBounds]; omega)
                       have b2 := hB.frozen ((i) * 2)
                       have b3 := hB.frozen ((i) * 2 + 1)
                       have hA' := hS.out.put (i := i) (by omega) y
                       have hB' := hS.out.put (i := jp + 1) (by omega) x
                       have a4 := hA'.cell0 (i := jp + 1) (by rw [Array.size_setIfInBounds]; omega)
                       have a5 := hA'.cell1 (i := jp + 1) (by rw [Array.size_setIfInBounds]; omega)
                       have a6 := hA'.frozen ((jp + 1) * 2)
                       have a7 := hA'.frozen ((jp + 1) * 2 + 1)
                       have b4 := hB'.cell0 (i := i) (by rw [Array.size_setIfInBounds]; omega)
                       have b5 := hB'.cell1 (i := i) (by rw [Array.size_setIfInBounds]; omega)
                       have b6 := hB'.frozen ((i) * 2)
                       have b7 := hB'.frozen ((i) * 2 + 1)
                       clear hA hB hA' hB'
                       go_cut [12, 13] (fun v12 v13 wc => (v12 = Value.int .i64 (i : Int) ∧ v13 = Value.int .i64 ((jp + 1 : Nat) : Int)) ∧ Hid (SR w0 g T rest (Sort.swp dk (i) (jp + 1)) wc))
                       case first =>
                         go_region
                         all_goals
                           go_wp2_with fail
                           go_meet
                           refine ⟨by first | rfl | exact ⟨rfl, rfl⟩ | exact ⟨rfl, rfl, rfl⟩, ?_⟩
                           unfold Hid
                           first | (with_reducible exact hw1.drew) | (with_reducible exact hw2.drew) | (with_reducible exact hw1) | (with_reducible exact hw2)
                       clear a0 a1 a2 a3 b0 b1 b2 b3 a4 a5 a6 a7 b4 b5 b6 b7 hw1 hw2 z1 z2 z3 z4 x0 x1 y0 y1 HX HY)
                      case rest =>
                        obtain ⟨⟨rfl, rfl⟩, hS2⟩ := hcut
                        have hszs : (Sort.swp dk i (jp + 1)).size = d.size := by rw [Sort.size_swp]; exact hsz
                        go_wp2_with fail
                        clear hS
                        go_loopw [12, 13] (fun v12 v13 wx => ∃ (i j : Nat) (dk : Array PE), v12 = .int .i64 i ∧ v13 = .int .i64 j ∧ a + 1 ≤ i ∧ i ≤ d.size + 1 ∧ j < d.size ∧ dk.size = d.size ∧ Hid (r = Sort.partLoop ltP a i j dk) ∧ Hid (SR w0 g T rest dk wx)) (fun v12 v13 _ => (intOf v13 + 1 - intOf v12).toNat)
                        case atStart => exact ⟨i + 1, jp, Sort.swp dk i (jp + 1), by go_num, by go_num, by omega, by omega, by omega, hszs, hr1, hS2⟩
                        case round =>
                          clear hS2 hr1 hszs
                          skip
                          obtain ⟨i, j, dk, rfl, rfl, hia, hib, hjb, hsz, HR, hS⟩ := hrel
                          go_wp2_with fail
                          (go_loopw [12] (fun v wx => ∃ (i2 : Nat), i ≤ i2 ∧ (i2 ≤ j + 1 ∨ i2 = i) ∧ v = .int .i64 i2 ∧ Hid (Sort.scanUp (fun x => ltP x dk[a]!) dk j i = Sort.scanUp (fun x => ltP x dk[a]!) dk j i2) ∧ Hid (SR w0 g T rest dk wx)) (fun v _ => (j + 1 : Nat) - (intOf v).toNat)
                           case atStart => exact ⟨i, Nat.le_refl _, .inr rfl, rfl, rfl, hS⟩
                           case round =>
                             clear hS
                             obtain ⟨i2, hi2, hi3, rfl, hU, hS⟩ := hrel
                             go_upto_region 13 with fail
                             go_cut [12, 120] (fun vi vb wc => ∃ bb : Bool, vi = .int .i64 i2 ∧ vb = .bool bb ∧ Hid ((bb = true → i2 ≤ j ∧ (fun x => ltP x dk[a]!) dk[i2]! = true) ∧ (bb = false → j < i2 ∨ (fun x => ltP x dk[a]!) dk[i2]! = false)) ∧ Hid (SR w0 g T rest dk wc))
                             case first =>
                               by_cases hij : i2 ≤ j
                               · have g1 : decide ((i2 : Int) ≤ (j : Int)) = true := decide_eq_true (by omega)
                                 have g2 : decide (i2 ≤ j) = true := decide_eq_true hij
                                 have aI : (a : Int) < (d.size : Int) := by omega
                                 have iI : (i2 : Int) < (d.size : Int) := by omega
                                 ((obtain ⟨x, hx⟩ : ∃ x : PE, x = dk[i2]! := ⟨_, rfl⟩
                                   obtain ⟨y, hy⟩ : ∃ y : PE, y = dk[a]! := ⟨_, rfl⟩
                                   have x0 := hS.out.cell0 (i := i2) (by omega)
                                   have x1 := hS.out.cell1 (i := i2) (by omega)
                                   have y0 := hS.out.cell0 (i := a) (by omega)
                                   have y1 := hS.out.cell1 (i := a) (by omega)
                                   rw [← hx] at x0 x1
                                   rw [← hy] at y0 y1
                                   have HX := Lib.hid hx
                                   have HY := Lib.hid hy
                                   clear hx hy)
                                  have HC := fun W => compareE x.1 x.2 y.1 y.2 W
                                  have hlt : Hid (ltP dk[i2]! dk[a]! = decide (cmpE x.1 x.2 y.1 y.2 < 0)) := by unfold Hid; rw [← HX.out, ← HY.out]; rfl
                                  have hgl := hS.out.lt
                                  have HK := Lib.hid (fun (W' : World) (h : Below wr.heap.size wr W') => (⟨(h.cell (p := ⟨g, (i2) * 2, none⟩) hgl).trans x0, (h.cell (p := ⟨g, (i2) * 2 + 1, none⟩) hgl).trans x1, (h.cell (p := ⟨g, (a) * 2, none⟩) hgl).trans y0, (h.cell (p := ⟨g, (a) * 2 + 1, none⟩) hgl).trans y1⟩ :
                                    W'.cell? ⟨g, (i2) * 2, none⟩ = some (.int .i64 x.1) ∧ W'.cell? ⟨g, (i2) * 2 + 1, none⟩ = some (.int .i64 x.2) ∧ W'.cell? ⟨g, (a) * 2, none⟩ = some (.int .i64 y.1) ∧ W'.cell? ⟨g, (a) * 2 + 1, none⟩ = some (.int .i64 y.2)))
                                  generalize cmpE x.1 x.2 y.1 y.2 = cp at HC hlt
                                  (try go_wp2_with fail)
                                  go_region_held3 (fun w' => w'.cell? ⟨g, (i2) * 2, none⟩ = some (.int .i64 x.1) ∧ w'.cell? ⟨g, (i2) * 2 + 1, none⟩ = some (.int .i64 x.2) ∧ w'.cell? ⟨g, (a) * 2, none⟩ = some (.int .i64 y.1) ∧ w'.cell? ⟨g, (a) * 2 + 1, none⟩ = some (.int .i64 y.2))
                                    (first | exact ⟨x0, x1, y0, y1⟩ | exact HK.out _ hbT | (refine HK.out _ ?_; (repeat (first | with_reducible exact Below.refl _ _ | with_reducible assumption | with_reducible refine below_drewN0 ?_ _ | with_reducible refine Below.drew ?_ | with_reducible refine Below.alloc ?_ ?_ _ | with_reducible refine Below.setCell ?_ ?_ _ | go_size | exact Below.size (by assumption))); done))
                                    (first | (go_at_call 68; go_loud (refine (HC _).mono ?_; rintro e w1 ⟨rfl, hbc⟩; have hbT : Below wr.heap.size wr w1 := Below.trans (by (repeat (first | with_reducible exact Below.refl _ _ | with_reducible assumption | with_reducible refine below_drewN0 ?_ _ | with_reducible refine Below.drew ?_ | with_reducible refine Below.alloc ?_ ?_ _ | with_reducible refine Below.setCell ?_ ?_ _ | go_size | exact Below.size (by assumption)))) (hbc.mono (by go_size)))))
                                  have hS1 := Lib.hid (hS.out.below hbT)
                                  clear HC HK x0 x1 y0 y1)
                                 have hP : (fun x => ltP x dk[a]!) dk[i2]! = decide (cp < 0) := by simp [hlt.out]
                                 have HP := Lib.hid hP
                                 clear hP
                                 go_wp2_with fail
                                 go_meet
                                 exact ⟨decide (cp < 0), rfl, rfl, ⟨fun h => ⟨hij, HP.out.trans h⟩, fun h => .inr (HP.out.trans h)⟩, hS1⟩
                               · have g1 : decide ((i2 : Int) ≤ (j : Int)) = false := decide_eq_false (by omega)
                                 have g2 : decide (i2 ≤ j) = false := decide_eq_false hij
                                 go_wp2_with fail
                                 go_quiet (fail)
                                 go_wp2_with fail
                                 go_meet
                                 exact ⟨false, rfl, rfl, ⟨fun h => (by cases h), fun _ => .inl (by omega)⟩, hS⟩
                             case rest =>
                               clear hS
                               obtain ⟨bb, rfl, rfl, hBB, hS⟩ := hcut
                               obtain ⟨wr, rfl⟩ : ∃ z, z = wc := ⟨_, rfl⟩
                               cases bb
                               · have hU3 := Lib.hid (hU.out.trans (scanUp_stop (hBB.out.2 rfl)))
                                 clear hU hBB
                                 (obtain ⟨i0, rfl⟩ : ∃ z, z = i := ⟨_, rfl⟩
                                  obtain ⟨i, rfl⟩ : ∃ z, z = i2 := ⟨_, rfl⟩
                                  go_wp2_with fail
                                  (go_loopw [13] (fun v wx => ∃ (j2 : Nat), j2 ≤ j ∧ v = .int .i64 j2 ∧ Hid (Sort.scanDown (fun x => !ltP x dk[a]!) dk i j = Sort.scanDown (fun x => !ltP x dk[a]!) dk i j2) ∧ Hid (SR w0 g T rest dk wx)) (fun v _ => (intOf v).toNat)
                                   case atStart => exact ⟨j, Nat.le_refl _, rfl, rfl, hS⟩
                                   case round =>
                                     clear hS
                                     obtain ⟨j2, hj2, rfl, hD, hS⟩ := hrel
                                     go_upto_region 15 with fail
                                     go_cut [13, 139] (fun vj vb wc => ∃ bb : Bool, vj = .int .i64 j2 ∧ vb = .bool bb ∧ Hid ((bb = true → i ≤ j2 ∧ (fun x => !ltP x dk[a]!) dk[j2]! = true) ∧ (bb = false → j2 < i ∨ (fun x => !ltP x dk[a]!) dk[j2]! = false)) ∧ Hid (SR w0 g T rest dk wc))
                                     case first =>
                                       by_cases hij : i ≤ j2
                                       · have g1 : decide ((i : Int) ≤ (j2 : Int)) = true := decide_eq_true (by omega)
                                         have g2 : decide (i ≤ j2) = true := decide_eq_true hij
                                         have aI : (a : Int) < (d.size : Int) := by omega
                                         have iI : (j2 : Int) < (d.size : Int) := by omega
                                         ((obtain ⟨x, hx⟩ : ∃ x : PE, x = dk[j2]! := ⟨_, rfl⟩
                                           obtain ⟨y, hy⟩ : ∃ y : PE, y = dk[a]! := ⟨_, rfl⟩
                                           have x0 := hS.out.cell0 (i := j2) (by omega)
                                           have x1 := hS.out.cell1 (i := j2) (by omega)
                                           have y0 := hS.out.cell0 (i := a) (by omega)
                                           have y1 := hS.out.cell1 (i := a) (by omega)
                                           rw [← hx] at x0 x1
                                           rw [← hy] at y0 y1
                                           have HX := Lib.hid hx
                                           have HY := Lib.hid hy
                                           clear hx hy)
                                          have HC := fun W => compareE x.1 x.2 y.1 y.2 W
                                          have hlt : Hid (ltP dk[j2]! dk[a]! = decide (cmpE x.1 x.2 y.1 y.2 < 0)) := by unfold Hid; rw [← HX.out, ← HY.out]; rfl
                                          have hgl := hS.out.lt
                                          have HK := Lib.hid (fun (W' : World) (h : Below wr.heap.size wr W') => (⟨(h.cell (p := ⟨g, (j2) * 2, none⟩) hgl).trans x0, (h.cell (p := ⟨g, (j2) * 2 + 1, none⟩) hgl).trans x1, (h.cell (p := ⟨g, (a) * 2, none⟩) hgl).trans y0, (h.cell (p := ⟨g, (a) * 2 + 1, none⟩) hgl).trans y1⟩ :
                                            W'.cell? ⟨g, (j2) * 2, none⟩ = some (.int .i64 x.1) ∧ W'.cell? ⟨g, (j2) * 2 + 1, none⟩ = some (.int .i64 x.2) ∧ W'.cell? ⟨g, (a) * 2, none⟩ = some (.int .i64 y.1) ∧ W'.cell? ⟨g, (a) * 2 + 1, none⟩ = some (.int .i64 y.2)))
                                          generalize cmpE x.1 x.2 y.1 y.2 = cp at HC hlt
                                          (try go_wp2_with fail)
                                          go_region_held3 (fun w' => w'.cell? ⟨g, (j2) * 2, none⟩ = some (.int .i64 x.1) ∧ w'.cell? ⟨g, (j2) * 2 + 1, none⟩ = some (.int .i64 x.2) ∧ w'.cell? ⟨g, (a) * 2, none⟩ = some (.int .i64 y.1) ∧ w'.cell? ⟨g, (a) * 2 + 1, none⟩ = some (.int .i64 y.2))
                                            (first | exact ⟨x0, x1, y0, y1⟩ | exact HK.out _ hbT | (refine HK.out _ ?_; (repeat (first | with_reducible exact Below.refl _ _ | with_reducible assumption | with_reducible refine below_drewN0 ?_ _ | with_reducible refine Below.drew ?_ | with_reducible refine Below.alloc ?_ ?_ _ | with_reducible refine Below.setCell ?_ ?_ _ | go_size | exact Below.size (by assumption))); done))
                                            (first | (go_at_call 68; go_loud (refine (HC _).mono ?_; rintro e w1 ⟨rfl, hbc⟩; have hbT : Below wr.heap.size wr w1 := Below.trans (by (repeat (first | with_reducible exact Below.refl _ _ | with_reducible assumption | with_reducible refine below_drewN0 ?_ _ | with_reducible refine Below.drew ?_ | with_reducible refine Below.alloc ?_ ?_ _ | with_reducible refine Below.setCell ?_ ?_ _ | go_size | exact Below.size (by assumption)))) (hbc.mono (by go_size)))))
                                          have hS1 := Lib.hid (hS.out.below hbT)
                                          clear HC HK x0 x1 y0 y1)
                                         have hP : (fun x => !ltP x dk[a]!) dk[j2]! = (!decide (cp < 0)) := by simp [hlt.out]
                                         have HP := Lib.hid hP
                                         clear hP
                                         go_wp2_with fail
                                         go_meet
                                         exact ⟨(!decide (cp < 0)), rfl, rfl, ⟨fun h => ⟨hij, HP.out.trans h⟩, fun h => .inr (HP.out.trans h)⟩, hS1⟩
                                       · have g1 : decide ((i : Int) ≤ (j2 : Int)) = false := decide_eq_false (by omega)
                                         have g2 : decide (i ≤ j2) = false := decide_eq_false hij
                                         go_wp2_with fail
                                         go_quiet (fail)
                                         go_wp2_with fail
                                         go_meet
                                         exact ⟨false, rfl, rfl, ⟨fun h => (by cases h), fun _ => .inl (by omega)⟩, hS⟩
                                     case rest =>
                                       clear hS
                                       obtain ⟨bb, rfl, rfl, hBB, hS⟩ := hcut
                                       obtain ⟨wr, rfl⟩ : ∃ z, z = wc := ⟨_, rfl⟩
                                       cases bb
                                       · have hD3 := Lib.hid (hD.out.trans (scanDown_stop (hBB.out.2 rfl)))
                                         clear hD hBB
                                         (obtain ⟨j0, rfl⟩ : ∃ z, z = j := ⟨_, rfl⟩
                                          obtain ⟨j, rfl⟩ : ∃ z, z = j2 := ⟨_, rfl⟩
                                          have hPL := Lib.hid (Sort.partLoop_eq (lt := ltP) a i0 j0 dk)
                                          rw [hU3.out, hD3.out, ← HR.out] at hPL
                                          clear hU3 hD3
                                          by_cases hij : j < i
                                          · have jiI : (j : Int) < (i : Int) := by omega
                                            have hr1 : Hid (r = (j, dk)) := by
                                              unfold Hid
                                              rw [hPL.out, if_pos hij]
                                            clear hPL
                                            (have : (0 : Int) ≤ (j : Int) := by omega
                                             have : ((j : Int) : Int).toNat = j := by omega
                                             have : ((j : Int) : Int) < (d.size : Int) := by omega
                                             have : IntKind.i64.wrap ((j : Int) : Int) = (j : Int) := by rw [IntKind.wrap_i64]; omega)
                                            go_upto_region 21 with fail
                                            ((obtain ⟨x, hx⟩ : ∃ x : PE, x = dk[j]! := ⟨_, rfl⟩
                                              obtain ⟨y, hy⟩ : ∃ y : PE, y = dk[a]! := ⟨_, rfl⟩
                                              have x0 := hS.out.cell0 (i := j) (by omega)
                                              have x1 := hS.out.cell1 (i := j) (by omega)
                                              have y0 := hS.out.cell0 (i := a) (by omega)
                                              have y1 := hS.out.cell1 (i := a) (by omega)
                                              rw [← hx] at x0 x1
                                              rw [← hy] at y0 y1
                                              have HX := Lib.hid hx
                                              have HY := Lib.hid hy
                                              clear hx hy)
                                             have z1 := hS.out.frozen ((j) * 2)
                                             have z2 := hS.out.frozen ((j) * 2 + 1)
                                             have z3 := hS.out.frozen ((a) * 2)
                                             have z4 := hS.out.frozen ((a) * 2 + 1)
                                             have hw1 := hS.out.swx (i := j) (j := a) (by omega) (by omega) HX.out HY.out
                                             have hw2 := hS.out.swx' (i := j) (j := a) (by omega) (by omega) HX.out HY.out
                                             have hA := (hS.out.put (i := j) (by omega) y).drew
                                             have hB := (hS.out.put (i := a) (by omega) x).drew
                                             have a0 := hA.cell0 (i := a) (by rw [Array.size_setIfInBounds]; omega)
                                             have a1 := hA.cell1 (i := a) (by rw [Array.size_setIfInBounds]; omega)
                                             have a2 := hA.frozen ((a) * 2)
                                             have a3 := hA.frozen ((a) * 2 + 1)
                                             have b0 := hB.cell0 (i := j) (by rw [Array.size_setIfInBounds]; omega)
                                             have b1 := hB.cell1 (i := j) (by rw [Array.size_setIfInBounds]; omega)
                                             have b2 := hB.frozen ((j) * 2)
                                             have b3 := hB.frozen ((j) * 2 + 1)
                                             have hA' := hS.out.put (i := j) (by omega) y
                                             have hB' := hS.out.put (i := a) (by omega) x
                                             have a4 := hA'.cell0 (i := a) (by rw [Array.size_setIfInBounds]; omega)
                                             have a5 := hA'.cell1 (i := a) (by rw [Array.size_setIfInBounds]; omega)
                                             have a6 := hA'.frozen ((a) * 2)
                                             have a7 := hA'.frozen ((a) * 2 + 1)
                                             have b4 := hB'.cell0 (i := j) (by rw [Array.size_setIfInBounds]; omega)
                                             have b5 := hB'.cell1 (i := j) (by rw [Array.size_setIfInBounds]; omega)
                                             have b6 := hB'.frozen ((j) * 2)
                                             have b7 := hB'.frozen ((j) * 2 + 1)
                                             clear hA hB hA' hB'
                                             go_cut [10, 11] (fun v10 v11 wc => (v10 = Value.int .i64 0 ∧ v11 = Value.bool false) ∧ Hid (SR w0 g T rest (Sort.swp dk (j) (a)) wc))
                                             case first =>
                                               go_region
                                               all_goals
                                                 go_wp2_with fail
                                                 go_meet
                                                 refine ⟨by first | rfl | exact ⟨rfl, rfl⟩ | exact ⟨rfl, rfl, rfl⟩, ?_⟩
                                                 unfold Hid
                                                 first | (with_reducible exact hw1.drew) | (with_reducible exact hw2.drew) | (with_reducible exact hw1) | (with_reducible exact hw2)
                                             clear a0 a1 a2 a3 b0 b1 b2 b3 a4 a5 a6 a7 b4 b5 b6 b7 hw1 hw2 z1 z2 z3 z4 x0 x1 y0 y1 HX HY)
                                            case rest =>
                                              obtain ⟨⟨rfl, rfl⟩, hS2⟩ := hcut
                                              go_wp2_with fail
                                              go_ret2
                                              exact ⟨j, false, rfl, by rw [hfst.out, hr1.out], by rw [harr.out, hr1.out]; exact hS2.out⟩
                                          · have jiI : ¬ (j : Int) < (i : Int) := by omega
                                            have hr1 : Hid (r = Sort.partLoop ltP a (i + 1) (j - 1) (Sort.swp dk i j)) := by
                                              unfold Hid
                                              rw [hPL.out, if_neg hij]
                                            clear hPL
                                            obtain ⟨jp, rfl⟩ : ∃ p, j = p + 1 := ⟨j - 1, by omega⟩
                                            (have : (0 : Int) ≤ (i : Int) := by omega
                                             have : ((i : Int) : Int).toNat = i := by omega
                                             have : ((i : Int) : Int) < (d.size : Int) := by omega
                                             have : IntKind.i64.wrap ((i : Int) : Int) = (i : Int) := by rw [IntKind.wrap_i64]; omega)
                                            (have : (0 : Int) ≤ ((jp + 1 : Nat) : Int) := by omega
                                             have : (((jp + 1 : Nat) : Int) : Int).toNat = jp + 1 := by omega
                                             have : (((jp + 1 : Nat) : Int) : Int) < (d.size : Int) := by omega
                                             have : IntKind.i64.wrap (((jp + 1 : Nat) : Int) : Int) = ((jp + 1 : Nat) : Int) := by rw [IntKind.wrap_i64]; omega)
                                            (have : (0 : Int) ≤ (jp : Int) + 1 := by omega
                                             have : ((jp : Int) + 1 : Int).toNat = jp + 1 := by omega
                                             have : ((jp : Int) + 1 : Int) < (d.size : Int) := by omega
                                             have : IntKind.i64.wrap ((jp : Int) + 1 : Int) = (jp : Int) + 1 := by rw [IntKind.wrap_i64]; omega)
                                            go_upto_region 18 with fail
                                            ((obtain ⟨x, hx⟩ : ∃ x : PE, x = dk[i]! := ⟨_, rfl⟩
                                              obtain ⟨y, hy⟩ : ∃ y : PE, y = dk[jp + 1]! := ⟨_, rfl⟩
                                              have x0 := hS.out.cell0 (i := i) (by omega)
                                              have x1 := hS.out.cell1 (i := i) (by omega)
                                              have y0 := hS.out.cell0 (i := jp + 1) (by omega)
                                              have y1 := hS.out.cell1 (i := jp + 1) (by omega)
                                              rw [← hx] at x0 x1
                                              rw [← hy] at y0 y1
                                              have HX := Lib.hid hx
                                              have HY := Lib.hid hy
                                              clear hx hy)
                                             have z1 := hS.out.frozen ((i) * 2)
                                             have z2 := hS.out.frozen ((i) * 2 + 1)
                                             have z3 := hS.out.frozen ((jp + 1) * 2)
                                             have z4 := hS.out.frozen ((jp + 1) * 2 + 1)
                                             have hw1 := hS.out.swx (i := i) (j := jp + 1) (by omega) (by omega) HX.out HY.out
                                             have hw2 := hS.out.swx' (i := i) (j := jp + 1) (by omega) (by omega) HX.out HY.out
                                             have hA := (hS.out.put (i := i) (by omega) y).drew
                                             have hB := (hS.out.put (i := jp + 1) (by omega) x).drew
                                             have a0 := hA.cell0 (i := jp + 1) (by rw [Array.size_setIfInBounds]; omega)
                                             have a1 := hA.cell1 (i := jp + 1) (by rw [Array.size_setIfInBounds]; omega)
                                             have a2 := hA.frozen ((jp + 1) * 2)
                                             have a3 := hA.frozen ((jp + 1) * 2 + 1)
                                             have b0 := hB.cell0 (i := i) (by rw [Array.size_setIfInBounds]; omega)
                                             have b1 := hB.cell1 (i := i) (by rw [Array.size_setIfInBounds]; omega)
                                             have b2 := hB.frozen ((i) * 2)
                                             have b3 := hB.frozen ((i) * 2 + 1)
                                             have hA' := hS.out.put (i := i) (by omega) y
                                             have hB' := hS.out.put (i := jp + 1) (by omega) x
                                             have a4 := hA'.cell0 (i := jp + 1) (by rw [Array.size_setIfInBounds]; omega)
                                             have a5 := hA'.cell1 (i := jp + 1) (by rw [Array.size_setIfInBounds]; omega)
                                             have a6 := hA'.frozen ((jp + 1) * 2)
                                             have a7 := hA'.frozen ((jp + 1) * 2 + 1)
                                             have b4 := hB'.cell0 (i := i) (by rw [Array.size_setIfInBounds]; omega)
                                             have b5 := hB'.cell1 (i := i) (by rw [Array.size_setIfInBounds]; omega)
                                             have b6 := hB'.frozen ((i) * 2)
                                             have b7 := hB'.frozen ((i) * 2 + 1)
                                             clear hA hB hA' hB'
                                             go_cut [12, 13] (fun v12 v13 wc => (v12 = Value.int .i64 (i : Int) ∧ v13 = Value.int .i64 ((jp + 1 : Nat) : Int)) ∧ Hid (SR w0 g T rest (Sort.swp dk (i) (jp + 1)) wc))
                                             case first =>
                                               go_region
                                               all_goals
                                                 go_wp2_with fail
                                                 go_meet
                                                 refine ⟨by first | rfl | exact ⟨rfl, rfl⟩ | exact ⟨rfl, rfl, rfl⟩, ?_⟩
                                                 unfold Hid
                                                 first | (with_reducible exact hw1.drew) | (with_reducible exact hw2.drew) | (with_reducible exact hw1) | (with_reducible exact hw2)
                                             clear a0 a1 a2 a3 b0 b1 b2 b3 a4 a5 a6 a7 b4 b5 b6 b7 hw1 hw2 z1 z2 z3 z4 x0 x1 y0 y1 HX HY)
                                            case rest =>
                                              obtain ⟨⟨rfl, rfl⟩, hS2⟩ := hcut
                                              go_wp2_with fail
                                              go_roundw
                                              case rel => exact ⟨i + 1, jp, Sort.swp dk i (jp + 1), by go_num, by go_num, by omega, by omega, by omega, by rw [Sort.size_swp]; exact hsz, hr1, hS2⟩
                                              case measure => first | (simp [intOf]; done) | (simp [intOf]; omega))
                                       · have hij := (hBB.out.1 rfl).1
                                         obtain ⟨jp, rfl⟩ : ∃ p, j2 = p + 1 := ⟨j2 - 1, by omega⟩
                                         have hD3 := Lib.hid (hD.out.trans (scanDown_go (hBB.out.1 rfl).1 (hBB.out.1 rfl).2))
                                         clear hD hBB
                                         go_wp2_with fail
                                         go_roundw
                                         case rel => exact ⟨jp, by omega, by go_num, hD3, hS⟩
                                         case measure => first | (simp [intOf]; done) | (simp [intOf]; omega)))
                               · have hU3 := Lib.hid (hU.out.trans (scanUp_go (hBB.out.1 rfl).1 (hBB.out.1 rfl).2))
                                 have hij := (hBB.out.1 rfl).1
                                 clear hU hBB
                                 go_wp2_with fail
                                 go_roundw
                                 case rel => exact ⟨i2 + 1, by omega, by omega, by go_num, hU3, hS⟩
                                 case measure => first | (simp [intOf]; done) | (simp [intOf]; omega)))
                 · have hij := (hBB.out.1 rfl).1
                   obtain ⟨jp, rfl⟩ : ∃ p, j2 = p + 1 := ⟨j2 - 1, by omega⟩
                   have hD3 := Lib.hid (hD.out.trans (scanDown_go (hBB.out.1 rfl).1 (hBB.out.1 rfl).2))
                   clear hD hBB
                   go_wp2_with fail
                   go_roundw
                   case rel => exact ⟨jp, by omega, by go_num, hD3, hS⟩
                   case measure => first | (simp [intOf]; done) | (simp [intOf]; omega)))
         · have hU3 := Lib.hid (hU.out.trans (scanUp_go (hBB.out.1 rfl).1 (hBB.out.1 rfl).2))
           have hij := (hBB.out.1 rfl).1
           clear hU hBB
           go_wp2_with fail
           go_roundw
           case rel => exact ⟨i2 + 1, by omega, by omega, by go_num, hU3, hS⟩
           case measure => first | (simp [intOf]; done) | (simp [intOf]; omega))
end Go.Proofs.Ytglhdoibglafbaa

/- Walk of partitionEqualCmpFunc at edges. -/
namespace Go.Proofs.Ytglhdoibglafbaa
open Go Go.RowKit
set_option maxRecDepth 100000
set_option linter.unusedVariables false
set_option linter.unusedSimpArgs false


set_option maxHeartbeats 8000000 in
theorem partEq_any (w0 W : World) (g : Nat) (T : TypeId) (rest : List Value) (d : Array PE) (c a l pivot : Nat) (hS : SR w0 g T rest d W) (hl : 12 < l) (hb : a + l ≤ d.size) (hm : d.size ≤ 1000000) (hp1 : a ≤ pivot) (hp2 : pivot < a + l) :
    Calls Try.prog 113 #[.slice (some ⟨g, 0, none⟩) d.size c, .int .i64 a, .int .i64 ((a : Int) + (l : Int)), .int .i64 pivot, (Value.func (.func 68) #[.agg #[]] #[])] W fun e w' => ∃ (mid : Nat), e = .returned (.int .i64 mid) ∧ (Sort.partitionEqual ltP d a (a + l) pivot).1 = mid ∧ SR w0 g T rest (Sort.partitionEqual ltP d a (a + l) pivot).2 w' := by
  have hS' := Lib.hid hS
  clear hS
  obtain ⟨r, hr⟩ : ∃ r, r = Sort.partitionEqual ltP d a (a + l) pivot := ⟨_, rfl⟩
  rw [← hr]
  have HR := Lib.hid hr
  unfold Sort.partitionEqual at HR
  clear hr
  obtain ⟨wr, rfl⟩ : ∃ z, z = W := ⟨_, rfl⟩
  have hS : Hid (SR w0 g T rest d wr) := hS'
  clear hS'
  obtain ⟨dk, hdk⟩ : ∃ dk, dk = d := ⟨_, rfl⟩
  rw [← hdk] at hS HR
  have hsz : dk.size = d.size := by rw [hdk]
  have HDK := Lib.hid hdk
  clear hdk
  (have : (0 : Int) ≤ (a : Int) := by omega
   have : ((a : Int) : Int).toNat = a := by omega
   have : ((a : Int) : Int) < (d.size : Int) := by omega
   have : IntKind.i64.wrap ((a : Int) : Int) = (a : Int) := by rw [IntKind.wrap_i64]; omega)
  (have : (0 : Int) ≤ (pivot : Int) := by omega
   have : ((pivot : Int) : Int).toNat = pivot := by omega
   have : ((pivot : Int) : Int) < (d.size : Int) := by omega
   have : IntKind.i64.wrap ((pivot : Int) : Int) = (pivot : Int) := by rw [IntKind.wrap_i64]; omega)
  go_enter Try.func113, Try.ntmps113
  go_wp2_with fail
  ((obtain ⟨x, hx⟩ : ∃ x : PE, x = dk[a]! := ⟨_, rfl⟩
    obtain ⟨y, hy⟩ : ∃ y : PE, y = dk[pivot]! := ⟨_, rfl⟩
    have x0 := hS.out.cell0 (i := a) (by omega)
    have x1 := hS.out.cell1 (i := a) (by omega)
    have y0 := hS.out.cell0 (i := pivot) (by omega)
    have y1 := hS.out.cell1 (i := pivot) (by omega)
    rw [← hx] at x0 x1
    rw [← hy] at y0 y1
    have HX := Lib.hid hx
    have HY := Lib.hid hy
    clear hx hy)
   have z1 := hS.out.frozen ((a) * 2)
   have z2 := hS.out.frozen ((a) * 2 + 1)
   have z3 := hS.out.frozen ((pivot) * 2)
   have z4 := hS.out.frozen ((pivot) * 2 + 1)
   have hw1 := hS.out.swx (i := a) (j := pivot) (by omega) (by omega) HX.out HY.out
   have hw2 := hS.out.swx' (i := a) (j := pivot) (by omega) (by omega) HX.out HY.out
   have hA := (hS.out.put (i := a) (by omega) y).drew
   have hB := (hS.out.put (i := pivot) (by omega) x).drew
   have a0 := hA.cell0 (i := pivot) (by rw [Array.size_setIfInBounds]; omega)
   have a1 := hA.cell1 (i := pivot) (by rw [Array.size_setIfInBounds]; omega)
   have a2 := hA.frozen ((pivot) * 2)
   have a3 := hA.frozen ((pivot) * 2 + 1)
   have b0 := hB.cell0 (i := a) (by rw [Array.size_setIfInBounds]; omega)
   have b1 := hB.cell1 (i := a) (by rw [Array.size_setIfInBounds]; omega)
   have b2 := hB.frozen ((a) * 2)
   have b3 := hB.frozen ((a) * 2 + 1)
   have hA' := hS.out.put (i := a) (by omega) y
   have hB' := hS.out.put (i := pivot) (by omega) x
   have a4 := hA'.cell0 (i := pivot) (by rw [Array.size_setIfInBounds]; omega)
   have a5 := hA'.cell1 (i := pivot) (by rw [Array.size_setIfInBounds]; omega)
   have a6 := hA'.frozen ((pivot) * 2)
   have a7 := hA'.frozen ((pivot) * 2 + 1)
   have b4 := hB'.cell0 (i := a) (by rw [Array.size_setIfInBounds]; omega)
   have b5 := hB'.cell1 (i := a) (by rw [Array.size_setIfInBounds]; omega)
   have b6 := hB'.frozen ((a) * 2)
   have b7 := hB'.frozen ((a) * 2 + 1)
   clear hA hB hA' hB'
   go_cut [10] (fun v10 wc => v10 = Value.int .i64 0 ∧ Hid (SR w0 g T rest (Sort.swp dk (a) (pivot)) wc))
   case first =>
     go_region
     all_goals
       go_wp2_with fail
       go_meet
       refine ⟨by first | rfl | exact ⟨rfl, rfl⟩ | exact ⟨rfl, rfl, rfl⟩, ?_⟩
       unfold Hid
       first | (with_reducible exact hw1.drew) | (with_reducible exact hw2.drew) | (with_reducible exact hw1) | (with_reducible exact hw2)
   clear a0 a1 a2 a3 b0 b1 b2 b3 a4 a5 a6 a7 b4 b5 b6 b7 hw1 hw2 z1 z2 z3 z4 x0 x1 y0 y1 HX HY)
  case rest =>
    obtain ⟨rfl, hS2⟩ := hcut
    clear hS
    have hsz2 : (Sort.swp dk a pivot).size = d.size := by rw [Sort.size_swp]; exact hsz
    clear hsz
    generalize Sort.swp dk a pivot = dk at *
    obtain ⟨i, hi⟩ : ∃ i, i = a + 1 := ⟨_, rfl⟩
    obtain ⟨j, hj⟩ : ∃ j, j = a + l - 1 := ⟨_, rfl⟩
    rw [← hi, ← hj] at HR
    have w1 : IntKind.i64.wrap ((a : Int) + 1) = (i : Int) := by rw [IntKind.wrap_i64]; omega
    have w2 : IntKind.i64.wrap ((a : Int) + (l : Int) - 1) = (j : Int) := by rw [IntKind.wrap_i64]; omega
    have hi1 : (a : Int) + 1 = (i : Int) := by omega
    have hj1 : (a : Int) + (l : Int) - 1 = (j : Int) := by omega
    have hia : a + 1 ≤ i := by omega
    have hib : i ≤ d.size + 1 := by omega
    have hjb : j < d.size := by omega
    clear hi hj
    go_wp2_with fail
    (try rw [hi1])
    (try rw [hj1])
    clear hi1 hj1 w1 w2
    go_loopw [11, 12] (fun v11 v12 wx => ∃ (i j : Nat) (dk : Array PE), v11 = .int .i64 i ∧ v12 = .int .i64 j ∧ a + 1 ≤ i ∧ i ≤ d.size + 1 ∧ j < d.size ∧ dk.size = d.size ∧ Hid (r = Sort.partEqLoop ltP a i j dk) ∧ Hid (SR w0 g T rest dk wx)) (fun v11 v12 _ => (intOf v12 + 1 - intOf v11).toNat)
    case atStart => exact ⟨i, j, dk, rfl, rfl, hia, hib, hjb, hsz2, HR, hS2⟩
    case round =>
      clear hS2 HR hsz2 hia hib hjb
      obtain ⟨i, j, dk, rfl, rfl, hia, hib, hjb, hsz, HR, hS⟩ := hrel
      go_wp2_with fail
      (go_loopw [11] (fun v wx => ∃ (i2 : Nat), i ≤ i2 ∧ (i2 ≤ j + 1 ∨ i2 = i) ∧ v = .int .i64 i2 ∧ Hid (Sort.scanUp (fun x => !ltP dk[a]! x) dk j i = Sort.scanUp (fun x => !ltP dk[a]! x) dk j i2) ∧ Hid (SR w0 g T rest dk wx)) (fun v _ => (j + 1 : Nat) - (intOf v).toNat)
       case atStart => exact ⟨i, Nat.le_refl _, .inr rfl, rfl, rfl, hS⟩
       case round =>
         clear hS
         obtain ⟨i2, hi2, hi3, rfl, hU, hS⟩ := hrel
         go_upto_region 3 with fail
         go_cut [11, 47] (fun vi vb wc => ∃ bb : Bool, vi = .int .i64 i2 ∧ vb = .bool bb ∧ Hid ((bb = true → i2 ≤ j ∧ (fun x => !ltP dk[a]! x) dk[i2]! = true) ∧ (bb = false → j < i2 ∨ (fun x => !ltP dk[a]! x) dk[i2]! = false)) ∧ Hid (SR w0 g T rest dk wc))
         case first =>
           by_cases hij : i2 ≤ j
           · have g1 : decide ((i2 : Int) ≤ (j : Int)) = true := decide_eq_true (by omega)
             have g2 : decide (i2 ≤ j) = true := decide_eq_true hij
             have aI : (a : Int) < (d.size : Int) := by omega
             have iI : (i2 : Int) < (d.size : Int) := by omega
             ((obtain ⟨x, hx⟩ : ∃ x : PE, x = dk[a]! := ⟨_, rfl⟩
               obtain ⟨y, hy⟩ : ∃ y : PE, y = dk[i2]! := ⟨_, rfl⟩
               have x0 := hS.out.cell0 (i := a) (by omega)
               have x1 := hS.out.cell1 (i := a) (by omega)
               have y0 := hS.out.cell0 (i := i2) (by omega)
               have y1 := hS.out.cell1 (i := i2) (by omega)
               rw [← hx] at x0 x1
               rw [← hy] at y0 y1
               have HX := Lib.hid hx
               have HY := Lib.hid hy
               clear hx hy)
              have HC := fun W => compareE x.1 x.2 y.1 y.2 W
              have hlt : Hid (ltP dk[a]! dk[i2]! = decide (cmpE x.1 x.2 y.1 y.2 < 0)) := by unfold Hid; rw [← HX.out, ← HY.out]; rfl
              have hgl := hS.out.lt
              have HK := Lib.hid (fun (W' : World) (h : Below wr.heap.size wr W') => (⟨(h.cell (p := ⟨g, (a) * 2, none⟩) hgl).trans x0, (h.cell (p := ⟨g, (a) * 2 + 1, none⟩) hgl).trans x1, (h.cell (p := ⟨g, (i2) * 2, none⟩) hgl).trans y0, (h.cell (p := ⟨g, (i2) * 2 + 1, none⟩) hgl).trans y1⟩ :
                W'.cell? ⟨g, (a) * 2, none⟩ = some (.int .i64 x.1) ∧ W'.cell? ⟨g, (a) * 2 + 1, none⟩ = some (.int .i64 x.2) ∧ W'.cell? ⟨g, (i2) * 2, none⟩ = some (.int .i64 y.1) ∧ W'.cell? ⟨g, (i2) * 2 + 1, none⟩ = some (.int .i64 y.2)))
              generalize cmpE x.1 x.2 y.1 y.2 = cp at HC hlt
              (try go_wp2_with fail)
              go_region_held3 (fun w' => w'.cell? ⟨g, (a) * 2, none⟩ = some (.int .i64 x.1) ∧ w'.cell? ⟨g, (a) * 2 + 1, none⟩ = some (.int .i64 x.2) ∧ w'.cell? ⟨g, (i2) * 2, none⟩ = some (.int .i64 y.1) ∧ w'.cell? ⟨g, (i2) * 2 + 1, none⟩ = some (.int .i64 y.2))
                (first | exact ⟨x0, x1, y0, y1⟩ | exact HK.out _ hbT | (refine HK.out _ ?_; (repeat (first | with_reducible exact Below.refl _ _ | with_reducible assumption | with_reducible refine below_drewN0 ?_ _ | with_reducible refine Below.drew ?_ | with_reducible refine Below.alloc ?_ ?_ _ | with_reducible refine Below.setCell ?_ ?_ _ | go_size | exact Below.size (by assumption))); done))
                (first | (go_at_call 68; go_loud (refine (HC _).mono ?_; rintro e w1 ⟨rfl, hbc⟩; have hbT : Below wr.heap.size wr w1 := Below.trans (by (repeat (first | with_reducible exact Below.refl _ _ | with_reducible assumption | with_reducible refine below_drewN0 ?_ _ | with_reducible refine Below.drew ?_ | with_reducible refine Below.alloc ?_ ?_ _ | with_reducible refine Below.setCell ?_ ?_ _ | go_size | exact Below.size (by assumption)))) (hbc.mono (by go_size)))))
              have hS1 := Lib.hid (hS.out.below hbT)
              clear HC HK x0 x1 y0 y1)
             have hP : (fun x => !ltP dk[a]! x) dk[i2]! = (!decide (cp < 0)) := by simp [hlt.out]
             have HP := Lib.hid hP
             clear hP
             go_wp2_with fail
             go_meet
             exact ⟨(!decide (cp < 0)), rfl, rfl, ⟨fun h => ⟨hij, HP.out.trans h⟩, fun h => .inr (HP.out.trans h)⟩, hS1⟩
           · have g1 : decide ((i2 : Int) ≤ (j : Int)) = false := decide_eq_false (by omega)
             have g2 : decide (i2 ≤ j) = false := decide_eq_false hij
             go_wp2_with fail
             go_quiet (fail)
             go_wp2_with fail
             go_meet
             exact ⟨false, rfl, rfl, ⟨fun h => (by cases h), fun _ => .inl (by omega)⟩, hS⟩
         case rest =>
           clear hS
           obtain ⟨bb, rfl, rfl, hBB, hS⟩ := hcut
           obtain ⟨wr, rfl⟩ : ∃ z, z = wc := ⟨_, rfl⟩
           cases bb
           · have hU3 := Lib.hid (hU.out.trans (scanUp_stop (hBB.out.2 rfl)))
             clear hU hBB
             (obtain ⟨i0, rfl⟩ : ∃ z, z = i := ⟨_, rfl⟩
              obtain ⟨i, rfl⟩ : ∃ z, z = i2 := ⟨_, rfl⟩
              go_wp2_with fail
              (go_loopw [12] (fun v wx => ∃ (j2 : Nat), j2 ≤ j ∧ v = .int .i64 j2 ∧ Hid (Sort.scanDown (fun x => ltP dk[a]! x) dk i j = Sort.scanDown (fun x => ltP dk[a]! x) dk i j2) ∧ Hid (SR w0 g T rest dk wx)) (fun v _ => (intOf v).toNat)
               case atStart => exact ⟨j, Nat.le_refl _, rfl, rfl, hS⟩
               case round =>
                 clear hS
                 obtain ⟨j2, hj2, rfl, hD, hS⟩ := hrel
                 go_upto_region 5 with fail
                 go_cut [12, 65] (fun vj vb wc => ∃ bb : Bool, vj = .int .i64 j2 ∧ vb = .bool bb ∧ Hid ((bb = true → i ≤ j2 ∧ (fun x => ltP dk[a]! x) dk[j2]! = true) ∧ (bb = false → j2 < i ∨ (fun x => ltP dk[a]! x) dk[j2]! = false)) ∧ Hid (SR w0 g T rest dk wc))
                 case first =>
                   by_cases hij : i ≤ j2
                   · have g1 : decide ((i : Int) ≤ (j2 : Int)) = true := decide_eq_true (by omega)
                     have g2 : decide (i ≤ j2) = true := decide_eq_true hij
                     have aI : (a : Int) < (d.size : Int) := by omega
                     have iI : (j2 : Int) < (d.size : Int) := by omega
                     ((obtain ⟨x, hx⟩ : ∃ x : PE, x = dk[a]! := ⟨_, rfl⟩
                       obtain ⟨y, hy⟩ : ∃ y : PE, y = dk[j2]! := ⟨_, rfl⟩
                       have x0 := hS.out.cell0 (i := a) (by omega)
                       have x1 := hS.out.cell1 (i := a) (by omega)
                       have y0 := hS.out.cell0 (i := j2) (by omega)
                       have y1 := hS.out.cell1 (i := j2) (by omega)
                       rw [← hx] at x0 x1
                       rw [← hy] at y0 y1
                       have HX := Lib.hid hx
                       have HY := Lib.hid hy
                       clear hx hy)
                      have HC := fun W => compareE x.1 x.2 y.1 y.2 W
                      have hlt : Hid (ltP dk[a]! dk[j2]! = decide (cmpE x.1 x.2 y.1 y.2 < 0)) := by unfold Hid; rw [← HX.out, ← HY.out]; rfl
                      have hgl := hS.out.lt
                      have HK := Lib.hid (fun (W' : World) (h : Below wr.heap.size wr W') => (⟨(h.cell (p := ⟨g, (a) * 2, none⟩) hgl).trans x0, (h.cell (p := ⟨g, (a) * 2 + 1, none⟩) hgl).trans x1, (h.cell (p := ⟨g, (j2) * 2, none⟩) hgl).trans y0, (h.cell (p := ⟨g, (j2) * 2 + 1, none⟩) hgl).trans y1⟩ :
                        W'.cell? ⟨g, (a) * 2, none⟩ = some (.int .i64 x.1) ∧ W'.cell? ⟨g, (a) * 2 + 1, none⟩ = some (.int .i64 x.2) ∧ W'.cell? ⟨g, (j2) * 2, none⟩ = some (.int .i64 y.1) ∧ W'.cell? ⟨g, (j2) * 2 + 1, none⟩ = some (.int .i64 y.2)))
                      generalize cmpE x.1 x.2 y.1 y.2 = cp at HC hlt
                      (try go_wp2_with fail)
                      go_region_held3 (fun w' => w'.cell? ⟨g, (a) * 2, none⟩ = some (.int .i64 x.1) ∧ w'.cell? ⟨g, (a) * 2 + 1, none⟩ = some (.int .i64 x.2) ∧ w'.cell? ⟨g, (j2) * 2, none⟩ = some (.int .i64 y.1) ∧ w'.cell? ⟨g, (j2) * 2 + 1, none⟩ = some (.int .i64 y.2))
                        (first | exact ⟨x0, x1, y0, y1⟩ | exact HK.out _ hbT | (refine HK.out _ ?_; (repeat (first | with_reducible exact Below.refl _ _ | with_reducible assumption | with_reducible refine below_drewN0 ?_ _ | with_reducible refine Below.drew ?_ | with_reducible refine Below.alloc ?_ ?_ _ | with_reducible refine Below.setCell ?_ ?_ _ | go_size | exact Below.size (by assumption))); done))
                        (first | (go_at_call 68; go_loud (refine (HC _).mono ?_; rintro e w1 ⟨rfl, hbc⟩; have hbT : Below wr.heap.size wr w1 := Below.trans (by (repeat (first | with_reducible exact Below.refl _ _ | with_reducible assumption | with_reducible refine below_drewN0 ?_ _ | with_reducible refine Below.drew ?_ | with_reducible refine Below.alloc ?_ ?_ _ | with_reducible refine Below.setCell ?_ ?_ _ | go_size | exact Below.size (by assumption)))) (hbc.mono (by go_size)))))
                      have hS1 := Lib.hid (hS.out.below hbT)
                      clear HC HK x0 x1 y0 y1)
                     have hP : (fun x => ltP dk[a]! x) dk[j2]! = decide (cp < 0) := by simp [hlt.out]
                     have HP := Lib.hid hP
                     clear hP
                     go_wp2_with fail
                     go_meet
                     exact ⟨decide (cp < 0), rfl, rfl, ⟨fun h => ⟨hij, HP.out.trans h⟩, fun h => .inr (HP.out.trans h)⟩, hS1⟩
                   · have g1 : decide ((i : Int) ≤ (j2 : Int)) = false := decide_eq_false (by omega)
                     have g2 : decide (i ≤ j2) = false := decide_eq_false hij
                     go_wp2_with fail
                     go_quiet (fail)
                     go_wp2_with fail
                     go_meet
                     exact ⟨false, rfl, rfl, ⟨fun h => (by cases h), fun _ => .inl (by omega)⟩, hS⟩
                 case rest =>
                   clear hS
                   obtain ⟨bb, rfl, rfl, hBB, hS⟩ := hcut
                   obtain ⟨wr, rfl⟩ : ∃ z, z = wc := ⟨_, rfl⟩
                   cases bb
                   · have hD3 := Lib.hid (hD.out.trans (scanDown_stop (hBB.out.2 rfl)))
                     clear hD hBB
                     (obtain ⟨j0, rfl⟩ : ∃ z, z = j := ⟨_, rfl⟩
                      obtain ⟨j, rfl⟩ : ∃ z, z = j2 := ⟨_, rfl⟩
                      have hPL := Lib.hid (Sort.partEqLoop_eq (lt := ltP) a i0 j0 dk)
                      rw [hU3.out, hD3.out, ← HR.out] at hPL
                      clear hU3 hD3
                      by_cases hij : j < i
                      · have jiI : (j : Int) < (i : Int) := by omega
                        have hr1 : Hid (r = (i, dk)) := by
                          unfold Hid
                          rw [hPL.out, if_pos hij]
                        clear hPL
                        go_wp2_with fail
                        go_ret
                        exact ⟨i, rfl, by rw [hr1.out], by rw [hr1.out]; exact hS.out⟩
                      · have jiI : ¬ (j : Int) < (i : Int) := by omega
                        have hr1 : Hid (r = Sort.partEqLoop ltP a (i + 1) (j - 1) (Sort.swp dk i j)) := by
                          unfold Hid
                          rw [hPL.out, if_neg hij]
                        clear hPL
                        obtain ⟨jp, rfl⟩ : ∃ p, j = p + 1 := ⟨j - 1, by omega⟩
                        (have : (0 : Int) ≤ (i : Int) := by omega
                         have : ((i : Int) : Int).toNat = i := by omega
                         have : ((i : Int) : Int) < (d.size : Int) := by omega
                         have : IntKind.i64.wrap ((i : Int) : Int) = (i : Int) := by rw [IntKind.wrap_i64]; omega)
                        (have : (0 : Int) ≤ ((jp + 1 : Nat) : Int) := by omega
                         have : (((jp + 1 : Nat) : Int) : Int).toNat = jp + 1 := by omega
                         have : (((jp + 1 : Nat) : Int) : Int) < (d.size : Int) := by omega
                         have : IntKind.i64.wrap (((jp + 1 : Nat) : Int) : Int) = ((jp + 1 : Nat) : Int) := by rw [IntKind.wrap_i64]; omega)
                        (have : (0 : Int) ≤ (jp : Int) + 1 := by omega
                         have : ((jp : Int) + 1 : Int).toNat = jp + 1 := by omega
                         have : ((jp : Int) + 1 : Int) < (d.size : Int) := by omega
                         have : IntKind.i64.wrap ((jp : Int) + 1 : Int) = (jp : Int) + 1 := by rw [IntKind.wrap_i64]; omega)
                        go_upto_region 8 with fail
                        ((obtain ⟨x, hx⟩ : ∃ x : PE, x = dk[i]! := ⟨_, rfl⟩
                          obtain ⟨y, hy⟩ : ∃ y : PE, y = dk[jp + 1]! := ⟨_, rfl⟩
                          have x0 := hS.out.cell0 (i := i) (by omega)
                          have x1 := hS.out.cell1 (i := i) (by omega)
                          have y0 := hS.out.cell0 (i := jp + 1) (by omega)
                          have y1 := hS.out.cell1 (i := jp + 1) (by omega)
                          rw [← hx] at x0 x1
                          rw [← hy] at y0 y1
                          have HX := Lib.hid hx
                          have HY := Lib.hid hy
                          clear hx hy)
                         have z1 := hS.out.frozen ((i) * 2)
                         have z2 := hS.out.frozen ((i) * 2 + 1)
                         have z3 := hS.out.frozen ((jp + 1) * 2)
                         have z4 := hS.out.frozen ((jp + 1) * 2 + 1)
                         have hw1 := hS.out.swx (i := i) (j := jp + 1) (by omega) (by omega) HX.out HY.out
                         have hw2 := hS.out.swx' (i := i) (j := jp + 1) (by omega) (by omega) HX.out HY.out
                         have hA := (hS.out.put (i := i) (by omega) y).drew
                         have hB := (hS.out.put (i := jp + 1) (by omega) x).drew
                         have a0 := hA.cell0 (i := jp + 1) (by rw [Array.size_setIfInBounds]; omega)
                         have a1 := hA.cell1 (i := jp + 1) (by rw [Array.size_setIfInBounds]; omega)
                         have a2 := hA.frozen ((jp + 1) * 2)
                         have a3 := hA.frozen ((jp + 1) * 2 + 1)
                         have b0 := hB.cell0 (i := i) (by rw [Array.size_setIfInBounds]; omega)
                         have b1 := hB.cell1 (i := i) (by rw [Array.size_setIfInBounds]; omega)
                         have b2 := hB.frozen ((i) * 2)
                         have b3 := hB.frozen ((i) * 2 + 1)
                         have hA' := hS.out.put (i := i) (by omega) y
                         have hB' := hS.out.put (i := jp + 1) (by omega) x
                         have a4 := hA'.cell0 (i := jp + 1) (by rw [Array.size_setIfInBounds]; omega)
                         have a5 := hA'.cell1 (i := jp + 1) (by rw [Array.size_setIfInBounds]; omega)
                         have a6 := hA'.frozen ((jp + 1) * 2)
                         have a7 := hA'.frozen ((jp + 1) * 2 + 1)
                         have b4 := hB'.cell0 (i := i) (by rw [Array.size_setIfInBounds]; omega)
                         have b5 := hB'.cell1 (i := i) (by rw [Array.size_setIfInBounds]; omega)
                         have b6 := hB'.frozen ((i) * 2)
                         have b7 := hB'.frozen ((i) * 2 + 1)
                         clear hA hB hA' hB'
                         go_cut [11, 12] (fun v11 v12 wc => (v11 = Value.int .i64 (i : Int) ∧ v12 = Value.int .i64 ((jp + 1 : Nat) : Int)) ∧ Hid (SR w0 g T rest (Sort.swp dk (i) (jp + 1)) wc))
                         case first =>
                           go_region
                           all_goals
                             go_wp2_with fail
                             go_meet
                             refine ⟨by first | rfl | exact ⟨rfl, rfl⟩ | exact ⟨rfl, rfl, rfl⟩, ?_⟩
                             unfold Hid
                             first | (with_reducible exact hw1.drew) | (with_reducible exact hw2.drew) | (with_reducible exact hw1) | (with_reducible exact hw2)
                         clear a0 a1 a2 a3 b0 b1 b2 b3 a4 a5 a6 a7 b4 b5 b6 b7 hw1 hw2 z1 z2 z3 z4 x0 x1 y0 y1 HX HY)
                        case rest =>
                          obtain ⟨⟨rfl, rfl⟩, hS2⟩ := hcut
                          go_wp2_with fail
                          go_roundw
                          case rel => exact ⟨i + 1, jp, Sort.swp dk i (jp + 1), by go_num, by go_num, by omega, by omega, by omega, by rw [Sort.size_swp]; exact hsz, hr1, hS2⟩
                          case measure => first | (simp [intOf]; done) | (simp [intOf]; omega))
                   · have hij := (hBB.out.1 rfl).1
                     obtain ⟨jp, rfl⟩ : ∃ p, j2 = p + 1 := ⟨j2 - 1, by omega⟩
                     have hD3 := Lib.hid (hD.out.trans (scanDown_go (hBB.out.1 rfl).1 (hBB.out.1 rfl).2))
                     clear hD hBB
                     go_wp2_with fail
                     go_roundw
                     case rel => exact ⟨jp, by omega, by go_num, hD3, hS⟩
                     case measure => first | (simp [intOf]; done) | (simp [intOf]; omega)))
           · have hU3 := Lib.hid (hU.out.trans (scanUp_go (hBB.out.1 rfl).1 (hBB.out.1 rfl).2))
             have hij := (hBB.out.1 rfl).1
             clear hU hBB
             go_wp2_with fail
             go_roundw
             case rel => exact ⟨i2 + 1, by omega, by omega, by go_num, hU3, hS⟩
             case measure => first | (simp [intOf]; done) | (simp [intOf]; omega))
end Go.Proofs.Ytglhdoibglafbaa

/- xorshift.Next, nextPowerOfTwo, bits.Len by the shelf. -/
namespace Go.Proofs.Ytglhdoibglafbaa
open Go Go.RowKit
set_option maxRecDepth 100000
set_option linter.unusedVariables false
set_option linter.unusedSimpArgs false

def xsNext_ren : Go.Shelf.Ren := ⟨fun | 48 => 131 | n => n, fun | 76 => 162 | 55 => 145 | 0 => 0 | 66 => 153 | 39 => 22 | n => n, fun | n => n⟩
theorem xsNext : Go.Proofs.SlLaysF0.n48 Try.prog xsNext_ren := {
  mixed := by kernel_rfl
  f48 := Try.func131.trans (congrArg some (by kernel_rfl))
  t0 := Try.underlying0
  a0 := Try.isAgg0
  z0 := Try.sizeOf0
  v0 := Try.zeroValue0
  t39 := Try.underlying22
  a39 := Try.isAgg22
  z39 := Try.sizeOf22
  v39 := Try.zeroValue22
  t55 := Try.underlying145
  a55 := Try.isAgg145
  z55 := Try.sizeOf145
  v55 := Try.zeroValue145
  t66 := Try.underlying153
  a66 := Try.isAgg153
  z66 := Try.sizeOf153
  v66 := Try.zeroValue153
  t76 := Try.underlying162
  a76 := Try.isAgg162
  z76 := Try.sizeOf162
  v76 := Try.zeroValue162 }

def npTwo_ren : Go.Shelf.Ren := ⟨fun | 47 => 130 | 15 => 95 | 28 => 115 | 29 => 116 | n => n, fun | 3 => 3 | 39 => 22 | 53 => 143 | 55 => 145 | 4 => 4 | 5 => 5 | 9 => 9 | n => n, fun | n => n⟩
theorem npTwo : Go.Proofs.SlLaysF0.n47 Try.prog npTwo_ren := {
  mixed := by kernel_rfl
  f15 := Try.func95.trans (congrArg some (by kernel_rfl))
  f28 := Try.func115.trans (congrArg some (by kernel_rfl))
  f29 := Try.func116.trans (congrArg some (by kernel_rfl))
  f47 := Try.func130.trans (congrArg some (by kernel_rfl))
  t3 := Try.underlying3
  a3 := Try.isAgg3
  z3 := Try.sizeOf3
  v3 := Try.zeroValue3
  t4 := Try.underlying4
  a4 := Try.isAgg4
  z4 := Try.sizeOf4
  v4 := Try.zeroValue4
  t5 := Try.underlying5
  a5 := Try.isAgg5
  z5 := Try.sizeOf5
  v5 := Try.zeroValue5
  t9 := Try.underlying9
  a9 := Try.isAgg9
  z9 := Try.sizeOf9
  v9 := Try.zeroValue9
  t39 := Try.underlying22
  a39 := Try.isAgg22
  z39 := Try.sizeOf22
  v39 := Try.zeroValue22
  t53 := Try.underlying143
  a53 := Try.isAgg143
  z53 := Try.sizeOf143
  v53 := Try.zeroValue143
  t55 := Try.underlying145
  a55 := Try.isAgg145
  z55 := Try.sizeOf145
  v55 := Try.zeroValue145 }


end Go.Proofs.Ytglhdoibglafbaa

/- Walk of breakPatternsCmpFunc at edges: some permutation. -/
namespace Go.Proofs.Ytglhdoibglafbaa
open Go Go.RowKit
set_option maxRecDepth 100000
set_option linter.unusedVariables false
set_option linter.unusedSimpArgs false

def SX (w0 : World) (g : Nat) (T : TypeId) (rest : List Value) (d : Array PE) (q : Nat) (T2 : TypeId) (X : Nat) (W : World) : Prop :=
  SR w0 g T rest d W ∧ W.heap[q]? = some (.cells #[.int .u64 (X : Int)] T2 (0, 0))
theorem SX.far {w0 W : World} {g q X : Nat} {T T2 : TypeId} {rest : List Value} {d : Array PE} (h : SX w0 g T rest d q T2 X W) (hq : w0.heap.size ≤ q) (hg : g < w0.heap.size) (X' n : Nat) : SX w0 g T rest d q T2 X' ((W.setCell ⟨q, 0, none⟩ (.int .u64 (X' : Int))).drewN n) := by
  refine ⟨⟨heap_far h.1.1 (by dsimp only; omega) _, h.1.2.1, h.1.2.2.1, h.1.2.2.2.1, (show w0.heap.size ≤ (W.setCell ⟨q, 0, none⟩ (.int .u64 (X' : Int))).heap.size by rw [World.size_setCell]; exact h.1.2.2.2.2.1), fun j hj hne => ?_⟩, ?_⟩
  · exact (Below.heap_setCell _ _ _ _ (by dsimp only; omega)).trans (h.1.2.2.2.2.2 j hj hne)
  · show (W.setCell ⟨q, 0, none⟩ (.int .u64 (X' : Int))).heap[q]? = _
    simp [World.setCell, Array.getElem?_modify, h.2]

theorem SX.of {w0 W W' : World} {g q X : Nat} {T T2 : TypeId} {rest : List Value} {d d' : Array PE} (h : SX w0 g T rest d q T2 X W) (hw : SR w0 g T rest d' W') (hQ : W'.heap[q]? = W.heap[q]?) : SX w0 g T rest d' q T2 X W' := ⟨hw, hQ.trans h.2⟩
set_option maxHeartbeats 8000000 in
theorem break_any (w0 W : World) (g : Nat) (T : TypeId) (rest : List Value) (d : Array PE) (c a l : Nat) (hS : SR w0 g T rest d W) (hl : 12 < l) (hb : a + l ≤ d.size) (hm : d.size ≤ 1000000) (hg : g < w0.heap.size) :
    Calls Try.prog 109 #[.slice (some ⟨g, 0, none⟩) d.size c, .int .i64 a, .int .i64 ((a : Int) + (l : Int)), (Value.func (.func 68) #[.agg #[]] #[])] W fun e w' => e = .returned (.tuple #[]) ∧ ∃ d', Sort.PermIn a (a + l) d d' ∧ SR w0 g T rest d' w' := by
  have hS' := Lib.hid hS
  have hsz0 := hS.2.2.2.2.1
  clear hS
  obtain ⟨q, hq, hq'⟩ : ∃ q : Nat, (l : Int).tdiv 4 = (q : Int) ∧ q * 4 ≤ l ∧ 3 ≤ q := ⟨l / 4, by rw [Int.tdiv_eq_ediv_of_nonneg (by omega)]; omega, by omega⟩
  have hq2 : (l : Int) / 4 = (q : Int) := by rw [← hq, Int.tdiv_eq_ediv_of_nonneg (by omega)]
  obtain ⟨M, hM⟩ : ∃ M : Nat, M = 1 <<< Sort.bitsLen l := ⟨_, rfl⟩
  have hM1 : M ≤ 2 * l := by rw [hM, Nat.shiftLeft_eq, Nat.one_mul]; exact Sort.two_pow_bitsLen_le (by omega)
  have hM0 : 1 ≤ M := by rw [hM, Nat.shiftLeft_eq, Nat.one_mul]; exact Nat.one_le_two_pow
  have hNP : ∀ W, Calls Try.prog 130 #[.int .i64 (l : Int)] W fun e w' => e = .returned (.int .u64 (M : Int)) ∧ w' = W := fun W => by
    rw [hM]; exact AnyF.nextPowerOfTwo npTwo l (by omega) W
  have hXS : ∀ (Q X : Nat) (W : World), X < 18446744073709551616 → W.cell? ⟨Q, 0, none⟩ = some (.int .u64 X) → W.frozen? ⟨Q, 0, none⟩ = false →
      Calls Try.prog 131 #[.pointer (some ⟨Q, 0, none⟩)] W fun e w' => e = .returned (.int .u64 (Sort.xorNextN X : Nat)) ∧ w' = (W.setCell ⟨Q, 0, none⟩ (.int .u64 (Sort.xorNextN X : Nat))).drewN 3 := fun Q X W hX hc hf => AnyF.xorshift_Next xsNext Q 0 X hX W hc hf
  clear hM
  have w1 : IntKind.i64.wrap ((a : Int) + (l : Int) - (a : Int)) = (l : Int) := by rw [IntKind.wrap_i64]; omega
  have w2 : IntKind.u64.wrap (l : Int) = (l : Int) := by rw [IntKind.wrap_u64]; omega
  go_enter Try.func109, Try.ntmps109
  go_upto_region 5 with (go_at_call 130; go_loud (refine (hNP _).mono ?_; rintro e w1 ⟨rfl, rfl⟩))
  have hX0 : Hid (SX w0 g T rest d W.heap.size 153 l (W.alloc (Obj.cells #[Value.int .u64 (l : Int)] 153))) := ⟨hS'.out.below (by (repeat (first | with_reducible exact Below.refl _ _ | with_reducible assumption | with_reducible refine below_drewN0 ?_ _ | with_reducible refine Below.drew ?_ | with_reducible refine Below.alloc ?_ ?_ _ | with_reducible refine Below.setCell ?_ ?_ _ | go_size | exact Below.size (by assumption)))), heap_alloc_new _ _⟩
  obtain ⟨Q, hQ, hQQ⟩ : ∃ Q, Q = W.heap.size ∧ w0.heap.size ≤ Q := ⟨_, rfl, hsz0⟩
  rw [← hQ] at hX0 ⊢
  clear hQ hS' w2 hNP
  obtain ⟨x0, hx0, hx1, hx2⟩ : ∃ x0 : Nat, (a : Int) + (q : Int) * 2 - 1 = (x0 : Int) ∧ a ≤ x0 ∧ x0 ≤ a + q * 2 + 1 := ⟨a + q * 2 - 1, by omega, by omega, by omega⟩
  rw [hx0]
  clear hx0
  go_loopw [11] (fun v wx => ∃ (k X : Nat) (dk : Array PE), v = .int .i64 k ∧ a ≤ k ∧ k ≤ a + q * 2 + 2 ∧ X < 18446744073709551616 ∧ Hid (Sort.PermIn a (a + l) d dk) ∧ dk.size = d.size ∧ Hid (SX w0 g T rest dk Q 153 X wx)) (fun v _ => a + q * 2 + 2 - (intOf v).toNat)
  case atStart => exact ⟨x0, l, d, rfl, hx1, by omega, by omega, Sort.permIn_refl d a (a + l), rfl, hX0⟩
  case round =>
    clear hX0 hx1 hx2
    obtain ⟨k, X, dk, rfl, hk1, hk2, hX, hP, hsz, hSX⟩ := hrel
    by_cases hk : k ≤ a + q * 2 + 1
    · have kI : (k : Int) ≤ (a : Int) + (q : Int) * 2 + 1 := by omega
      have c0 : wr.cell? ⟨Q, 0, none⟩ = some (.int .u64 X) := (cell_of_row wr Q 0 _ _ (0, 0) hSX.out.2).trans rfl
      have f0 : wr.frozen? ⟨Q, 0, none⟩ = false := by simp [World.frozen?, hSX.out.2]
      have hX2 := Sort.xorNextN_lt X hX
      have hcall := hXS Q X wr hX c0 f0
      have hSX2 := Lib.hid (hSX.out.far hQQ hg (Sort.xorNextN X) 3)
      generalize Sort.xorNextN X = Y at *
      have uM : IntKind.u64.wrap ((M : Int) - 1) = (M : Int) - 1 := by rw [IntKind.wrap_u64]; omega
      obtain ⟨O, hO, hO1⟩ : ∃ O : Nat, bits .and .u64 (Y : Int) ((M : Int) - 1) = (O : Int) ∧ O < 2 * l := by
        refine ⟨Y &&& (M - 1), ?_, ?_⟩
        · rw [show ((M : Int) - 1) = ((M - 1 : Nat) : Int) by omega, bits_and_u64_nat _ _ hX2 (by omega)]
        · have := Nat.and_le_right (n := Y) (m := M - 1); omega
      have uO : IntKind.i64.wrap (O : Int) = (O : Int) := by rw [IntKind.wrap_i64]; omega
      clear c0 f0
      go_upto_region 8 with (go_at_call 131; go_loud (refine hcall.mono ?_; rintro e w1 ⟨rfl, rfl⟩))
      generalize (wr.setCell ⟨Q, 0, none⟩ (Value.int .u64 (Y : Int))).drewN 3 = wr2 at *
      obtain ⟨wr, rfl⟩ : ∃ z, z = wr2 := ⟨_, rfl⟩
      have hS := Lib.hid hSX2.out.1
      (have : (0 : Int) ≤ (k : Int) := by omega
       have : ((k : Int) : Int).toNat = k := by omega
       have : ((k : Int) : Int) < (d.size : Int) := by omega
       have : IntKind.i64.wrap ((k : Int) : Int) = (k : Int) := by rw [IntKind.wrap_i64]; omega)
      have uk : IntKind.i64.wrap ((k : Int) + 1) = (k : Int) + 1 := by rw [IntKind.wrap_i64]; omega
      by_cases hol : l ≤ O
      · have olI : (l : Int) ≤ (O : Int) := by omega
        have olI2 : ¬ (O : Int) < (l : Int) := by omega
        obtain ⟨o, ho, ho1⟩ : ∃ o : Nat, IntKind.i64.wrap ((O : Int) - (l : Int)) = (o : Int) ∧ o < l := ⟨O - l, by rw [IntKind.wrap_i64]; omega, by omega⟩
        go_upto_region 10 with fail
        ((have : (0 : Int) ≤ (a : Int) + (o : Int) := by omega
          have : ((a : Int) + (o : Int) : Int).toNat = a + o := by omega
          have : ((a : Int) + (o : Int) : Int) < (d.size : Int) := by omega
          have : IntKind.i64.wrap ((a : Int) + (o : Int) : Int) = (a : Int) + (o : Int) := by rw [IntKind.wrap_i64]; omega)
         have hP2 : Hid (Sort.PermIn a (a + l) d (Sort.swp dk k (a + o))) := Sort.permIn_trans _ _ _ a (a + l) hP.out (Sort.swp_permIn dk a (a + l) k (a + o) (by omega) (by omega) (by omega) (by omega) (by omega))
         ((obtain ⟨x, hx⟩ : ∃ x : PE, x = dk[k]! := ⟨_, rfl⟩
           obtain ⟨y, hy⟩ : ∃ y : PE, y = dk[a + o]! := ⟨_, rfl⟩
           have x0 := hS.out.cell0 (i := k) (by omega)
           have x1 := hS.out.cell1 (i := k) (by omega)
           have y0 := hS.out.cell0 (i := a + o) (by omega)
           have y1 := hS.out.cell1 (i := a + o) (by omega)
           rw [← hx] at x0 x1
           rw [← hy] at y0 y1
           have HX := Lib.hid hx
           have HY := Lib.hid hy
           clear hx hy)
          have z1 := hS.out.frozen ((k) * 2)
          have z2 := hS.out.frozen ((k) * 2 + 1)
          have z3 := hS.out.frozen ((a + o) * 2)
          have z4 := hS.out.frozen ((a + o) * 2 + 1)
          have hw1 := hS.out.swx (i := k) (j := a + o) (by omega) (by omega) HX.out HY.out
          have hw2 := hS.out.swx' (i := k) (j := a + o) (by omega) (by omega) HX.out HY.out
          have hA := (hS.out.put (i := k) (by omega) y).drew
          have hB := (hS.out.put (i := a + o) (by omega) x).drew
          have a0 := hA.cell0 (i := a + o) (by rw [Array.size_setIfInBounds]; omega)
          have a1 := hA.cell1 (i := a + o) (by rw [Array.size_setIfInBounds]; omega)
          have a2 := hA.frozen ((a + o) * 2)
          have a3 := hA.frozen ((a + o) * 2 + 1)
          have b0 := hB.cell0 (i := k) (by rw [Array.size_setIfInBounds]; omega)
          have b1 := hB.cell1 (i := k) (by rw [Array.size_setIfInBounds]; omega)
          have b2 := hB.frozen ((k) * 2)
          have b3 := hB.frozen ((k) * 2 + 1)
          have hA' := hS.out.put (i := k) (by omega) y
          have hB' := hS.out.put (i := a + o) (by omega) x
          have a4 := hA'.cell0 (i := a + o) (by rw [Array.size_setIfInBounds]; omega)
          have a5 := hA'.cell1 (i := a + o) (by rw [Array.size_setIfInBounds]; omega)
          have a6 := hA'.frozen ((a + o) * 2)
          have a7 := hA'.frozen ((a + o) * 2 + 1)
          have b4 := hB'.cell0 (i := k) (by rw [Array.size_setIfInBounds]; omega)
          have b5 := hB'.cell1 (i := k) (by rw [Array.size_setIfInBounds]; omega)
          have b6 := hB'.frozen ((k) * 2)
          have b7 := hB'.frozen ((k) * 2 + 1)
          clear hA hB hA' hB'
          (try go_wp2_with fail)
          go_region
          all_goals
            go_wp2_with fail
            go_roundw
            case rel =>
              refine ⟨k + 1, Y, Sort.swp dk k (a + o), by go_num, by omega, by omega, hX2, hP2, by rw [Sort.size_swp]; exact hsz, ?_⟩
              unfold Hid
              first | ((with_reducible refine hSX2.out.of (hw1.drew) ?_)) | ((with_reducible refine hSX2.out.of (hw2.drew) ?_)) | ((with_reducible refine hSX2.out.of hw1 ?_)) | ((with_reducible refine hSX2.out.of hw2 ?_))
              have hQg : Q ≠ g := by omega
              first | (with_reducible exact sr_far4d hQg) | (with_reducible exact sr_far4 hQg)
            case measure => first | (simp [intOf]; done) | (simp [intOf]; omega)))
      · have olI : ¬ (l : Int) ≤ (O : Int) := by omega
        have olI2 : (O : Int) < (l : Int) := by omega
        have ho1 : O < l := by omega
        go_upto_region 10 with fail
        ((have : (0 : Int) ≤ (a : Int) + (O : Int) := by omega
          have : ((a : Int) + (O : Int) : Int).toNat = a + O := by omega
          have : ((a : Int) + (O : Int) : Int) < (d.size : Int) := by omega
          have : IntKind.i64.wrap ((a : Int) + (O : Int) : Int) = (a : Int) + (O : Int) := by rw [IntKind.wrap_i64]; omega)
         have hP2 : Hid (Sort.PermIn a (a + l) d (Sort.swp dk k (a + O))) := Sort.permIn_trans _ _ _ a (a + l) hP.out (Sort.swp_permIn dk a (a + l) k (a + O) (by omega) (by omega) (by omega) (by omega) (by omega))
         ((obtain ⟨x, hx⟩ : ∃ x : PE, x = dk[k]! := ⟨_, rfl⟩
           obtain ⟨y, hy⟩ : ∃ y : PE, y = dk[a + O]! := ⟨_, rfl⟩
           have x0 := hS.out.cell0 (i := k) (by omega)
           have x1 := hS.out.cell1 (i := k) (by omega)
           have y0 := hS.out.cell0 (i := a + O) (by omega)
           have y1 := hS.out.cell1 (i := a + O) (by omega)
           rw [← hx] at x0 x1
           rw [← hy] at y0 y1
           have HX := Lib.hid hx
           have HY := Lib.hid hy
           clear hx hy)
          have z1 := hS.out.frozen ((k) * 2)
          have z2 := hS.out.frozen ((k) * 2 + 1)
          have z3 := hS.out.frozen ((a + O) * 2)
          have z4 := hS.out.frozen ((a + O) * 2 + 1)
          have hw1 := hS.out.swx (i := k) (j := a + O) (by omega) (by omega) HX.out HY.out
          have hw2 := hS.out.swx' (i := k) (j := a + O) (by omega) (by omega) HX.out HY.out
          have hA := (hS.out.put (i := k) (by omega) y).drew
          have hB := (hS.out.put (i := a + O) (by omega) x).drew
          have a0 := hA.cell0 (i := a + O) (by rw [Array.size_setIfInBounds]; omega)
          have a1 := hA.cell1 (i := a + O) (by rw [Array.size_setIfInBounds]; omega)
          have a2 := hA.frozen ((a + O) * 2)
          have a3 := hA.frozen ((a + O) * 2 + 1)
          have b0 := hB.cell0 (i := k) (by rw [Array.size_setIfInBounds]; omega)
          have b1 := hB.cell1 (i := k) (by rw [Array.size_setIfInBounds]; omega)
          have b2 := hB.frozen ((k) * 2)
          have b3 := hB.frozen ((k) * 2 + 1)
          have hA' := hS.out.put (i := k) (by omega) y
          have hB' := hS.out.put (i := a + O) (by omega) x
          have a4 := hA'.cell0 (i := a + O) (by rw [Array.size_setIfInBounds]; omega)
          have a5 := hA'.cell1 (i := a + O) (by rw [Array.size_setIfInBounds]; omega)
          have a6 := hA'.frozen ((a + O) * 2)
          have a7 := hA'.frozen ((a + O) * 2 + 1)
          have b4 := hB'.cell0 (i := k) (by rw [Array.size_setIfInBounds]; omega)
          have b5 := hB'.cell1 (i := k) (by rw [Array.size_setIfInBounds]; omega)
          have b6 := hB'.frozen ((k) * 2)
          have b7 := hB'.frozen ((k) * 2 + 1)
          clear hA hB hA' hB'
          (try go_wp2_with fail)
          go_region
          all_goals
            go_wp2_with fail
            go_roundw
            case rel =>
              refine ⟨k + 1, Y, Sort.swp dk k (a + O), by go_num, by omega, by omega, hX2, hP2, by rw [Sort.size_swp]; exact hsz, ?_⟩
              unfold Hid
              first | ((with_reducible refine hSX2.out.of (hw1.drew) ?_)) | ((with_reducible refine hSX2.out.of (hw2.drew) ?_)) | ((with_reducible refine hSX2.out.of hw1 ?_)) | ((with_reducible refine hSX2.out.of hw2 ?_))
              have hQg : Q ≠ g := by omega
              first | (with_reducible exact sr_far4d hQg) | (with_reducible exact sr_far4 hQg)
            case measure => first | (simp [intOf]; done) | (simp [intOf]; omega)))
    · have kI : ¬ (k : Int) ≤ (a : Int) + (q : Int) * 2 + 1 := by omega
      go_wp2_with fail
      go_end0
      exact ⟨rfl, dk, hP.out, hSX.out.1⟩
end Go.Proofs.Ytglhdoibglafbaa
