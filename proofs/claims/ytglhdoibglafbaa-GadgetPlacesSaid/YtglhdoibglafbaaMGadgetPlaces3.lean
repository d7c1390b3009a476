/- The walk of graph.Lists. -/
import Derived.Test.YtglhdoibglafbaaMGadgetPlaces2
import Derived.Deep.OwnRows
import Derived.Deep.RegionLaw
import Derived.Deep.CutBlock
import Derived.Maps.OwnSet
import Derived.DeepKeys4
namespace Go.Proofs.Ytglhdoibglafbaa
open Go Go.RowKit
set_option maxRecDepth 100000
set_option linter.unusedVariables false

theorem reads_new' (w : World) (o : Obj) (cs : List Value) (t : TypeId) : Reads (((w.alloc o).alloc (.cells cs.toArray t)).drew) (some ⟨w.heap.size + 1, 0, none⟩) cs := by
  have h := reads_new (w.alloc o) cs t
  rw [World.size_alloc] at h
  exact h

/-- What Lists leaves. -/
def ListsPost (n : Nat) (es : List (Int × Int)) (w : World) (e : Ending) (w' : World) : Prop :=
  ∃ (B : Nat) (vs : List Value), e = .returned (.slice (some ⟨B, 0, none⟩) n n) ∧ w.heap.size ≤ B ∧ RowsI w' 26 3 (B + 1) B vs (rowsF n (nearL es)) ∧ Below w.heap.size w w'


set_option maxHeartbeats 4000000 in
theorem lists_any (n : Nat) (es : List (Int × Int)) (A : Option Addr) (c : Nat) (w : World) (hr : Reads w A (pcells es)) (hc : es.length ≤ c) (hm : es.length ≤ 2000000) (hn : n ≤ 1000000)
    (hok : ∀ e ∈ es, 0 ≤ e.1 ∧ e.1 < (n : Int) ∧ 0 ≤ e.2 ∧ e.2 < (n : Int)) :
    Calls Try.prog 74 #[.int .i64 (n : Int), .slice A es.length c] w (ListsPost n es w) := by
  have hmk := fun w0 : World => run_make_row' (P := Try.prog) 85 26 (.slice none 0 0) 24 Try.underlying85 (by kernel_rfl) rfl .i64 .i64 n (by omega) (by omega) w0
  go_enter Try.func74, Try.ntmps74
  go_wp2_with fail
  generalize hW : w.alloc (Obj.cells (madeCells #[Value.slice none 0 0] n) 26) = W
  have hbW : Below w.heap.size w W := by rw [← hW]; (repeat (first | with_reducible exact Below.refl _ _ | with_reducible assumption | with_reducible refine below_drewN0 ?_ _ | with_reducible refine Below.drew ?_ | with_reducible refine Below.alloc ?_ ?_ _ | with_reducible refine Below.setCell ?_ ?_ _ | go_size | exact Below.size (by assumption)))
  have hR0 : RowsI W 26 3 (w.heap.size + 1) w.heap.size (List.replicate n (.slice none 0 0)) (List.replicate n []) := RowsI.made (by rw [← hW]; exact heap_alloc_new _ _) (by omega)
  have hR1 : (List.replicate n ([] : List Int)) = rowsF n (fun v => lowL (es.take 0) v) := (rowsF_nil n _ (fun v => by simp [lowL])).symm
  rw [hR1] at hR0
  have HR0 := Lib.hid hR0
  have HOK := Lib.hid hok
  have hWs : W.heap.size = w.heap.size + 1 := by rw [← hW]; simp
  clear hW hmk hR0 hR1 hok
  go_loopw [14] (fun i wr => ∃ (k : Nat) (vs : List Value), k ≤ es.length ∧ i = .int .i64 k ∧ Hid (RowsI wr 26 3 (w.heap.size + 1) w.heap.size vs (rowsF n (fun v => lowL (es.take k) v))) ∧ Below w.heap.size w wr) (fun i _ => es.length - (intOf i).toNat)
  case atStart => exact ⟨0, _, Nat.zero_le _, rfl, HR0, hbW⟩
  case round =>
    clear HR0 hbW hWs
    clear W
    obtain ⟨k, vs, hk, rfl, hR, hb⟩ := hrel
    by_cases hlt : k < es.length
    · obtain ⟨⟨x, y⟩, hxy⟩ : ∃ e, es[k]? = some e := ⟨es[k], by simp [hlt]⟩
      obtain ⟨b, o, rfl, hbl, e1, e2⟩ := (hr.below hb).pair' k _ hxy
      obtain ⟨x0, x1, y0, y1⟩ := HOK.out _ (List.mem_of_getElem? hxy)
      dsimp only at x0 x1 y0 y1
      obtain ⟨xn, rfl⟩ : ∃ m : Nat, x = m := ⟨x.toNat, by omega⟩
      obtain ⟨yn, rfl⟩ : ∃ m : Nat, y = m := ⟨y.toNat, by omega⟩
      (have yn1 : yn < n := by omega
       have HXY := Lib.hid hxy
       clear hxy
       obtain ⟨v, A1, c1, hv, rfl, hc1, hrd, ho, hcell⟩ := hR.out.get yn _ (rowsF_get _ _ _ yn1)
       have hlow : ((fun v => lowL (es.take k) v) yn).length ≤ es.length + es.length := by simp only; first | (have := lowL_length (es.take k) yn; have := List.length_take_le k es; omega) | (rw [List.length_append]; have := lowL_length es yn; have := highL_length (es.take k) yn; have := List.length_take_le k es; omega)
       have htk := List.length_take_le k es
       have hfz := hR.out.frozen yn
       have hlB := hR.out.lt
       have HV := Lib.hid hv
       have HO := Lib.hid ho
       clear hv ho hrd
       have hl0 : ∃ l, l = (fun v => lowL (es.take k) v) yn := ⟨_, rfl⟩
       obtain ⟨l, hl⟩ := hl0
       simp only [← hl] at hlow hc1 hcell HV HO
       have HL := Lib.hid hl
       clear hl
       have hA1 : Below wr.heap.size wr (wr.alloc (Obj.cells #[Value.int .i64 (xn : Int), Value.int .i64 (yn : Int)] 28)) := by (repeat (first | with_reducible exact Below.refl _ _ | with_reducible assumption | with_reducible refine below_drewN0 ?_ _ | with_reducible refine Below.drew ?_ | with_reducible refine Below.alloc ?_ ?_ _ | with_reducible refine Below.setCell ?_ ?_ _ | go_size | exact Below.size (by assumption)))
       have hE := blk2 (heap_alloc_new wr (Obj.cells #[Value.int .i64 (xn : Int), Value.int .i64 (yn : Int)] 28))
       have HS := Lib.hid (fun (w' : World) (h : Below (wr.heap.size + 1) (wr.alloc (Obj.cells #[Value.int .i64 (xn : Int), Value.int .i64 (yn : Int)] 28)) w') => (⟨(h.cell (p := ⟨w.heap.size, yn, none⟩) (by dsimp only; omega)).trans ((Below.cell (p := ⟨w.heap.size, yn, none⟩) hA1 hlB).trans hcell), (h.cell (p := ⟨wr.heap.size, 0, none⟩) (by dsimp only; omega)).trans hE.1, (h.cell (p := ⟨wr.heap.size, 1, none⟩) (by dsimp only; omega)).trans hE.2.1⟩ :
         w'.cell? ⟨w.heap.size, yn, none⟩ = some (.slice A1 l.length c1) ∧ w'.cell? ⟨wr.heap.size, 0, none⟩ = some (.int .i64 (xn : Int)) ∧ w'.cell? ⟨wr.heap.size, 1, none⟩ = some (.int .i64 (yn : Int))))
       go_upto_block 1 with fail
       go_cut [5] (fun v5 wc => ∃ vs' : List Value, v5 = .slice (some ⟨w.heap.size, 0, none⟩) n n ∧ Hid (RowsI wc 26 3 (w.heap.size + 1) w.heap.size vs' (rowsF n (fun v => lowL (es.take (k + 1)) v))) ∧ Below w.heap.size w wc)
       case first =>
         go_wp2_with fail
         go_region_law
           (first
             | (refine step_app EI_int rfl (.tmp 25) (.tmp 28) rfl (w.heap.size + 1) (.slice A1 l.length c1) l.length (icells l) rfl ?_ (some ⟨_, 0, none⟩) 1 1 [.int .i64 (xn : Int)] rfl ?_ rfl ?_ ?_ ?_ ?_
                · exact own_below0 HO.out (by (repeat (first | with_reducible exact Below.refl _ _ | with_reducible assumption | with_reducible refine below_drewN0 ?_ _ | with_reducible refine Below.drew ?_ | with_reducible refine Below.alloc ?_ ?_ _ | with_reducible refine Below.setCell ?_ ?_ _ | go_size | exact Below.size (by assumption))))
                · exact reads_new' wr _ [_] _
                · simp [Value.oneCell']
                · omega
                · go_size
                intro v2 w2 hown2 hg2 hat2
                obtain ⟨A2, c2, rfl, hc2, _⟩ := own_reads0 hown2
                have hne : ∀ g, (g = w.heap.size ∨ g = wr.heap.size) → some g ≠ (Value.slice A1 l.length c1).ownBlock := fun g hg hx => by
                  have h9 := own_lt0 HO.out g hx.symm
                  omega
                have hS1 := HS.out (((wr.alloc (Obj.cells #[Value.int .i64 (xn : Int), Value.int .i64 (yn : Int)] 28)).alloc (Obj.cells #[Value.int .i64 (xn : Int)] 3)).drew) (by (repeat (first | with_reducible exact Below.refl _ _ | with_reducible assumption | with_reducible refine below_drewN0 ?_ _ | with_reducible refine Below.drew ?_ | with_reducible refine Below.alloc ?_ ?_ _ | with_reducible refine Below.setCell ?_ ?_ _ | go_size | exact Below.size (by assumption))))
                have hS2 := (⟨hg2.cell hS1.1 (hne _ (.inl rfl)), hg2.cell hS1.2.1 (hne _ (.inr rfl)), hg2.cell hS1.2.2 (hne _ (.inr rfl))⟩ : w2.cell? ⟨w.heap.size, yn, none⟩ = some (.slice A1 l.length c1) ∧ w2.cell? ⟨wr.heap.size, 0, none⟩ = some (.int .i64 (xn : Int)) ∧ w2.cell? ⟨wr.heap.size, 1, none⟩ = some (.int .i64 (yn : Int)))
                obtain ⟨s0, s1, s2⟩ := id hS2
                have hz2 : w2.frozen? ⟨w.heap.size, yn, none⟩ = false := (World.frozen?_of_block (w := (((wr.alloc (Obj.cells #[Value.int .i64 (xn : Int), Value.int .i64 (yn : Int)] 28)).alloc (Obj.cells #[Value.int .i64 (xn : Int)] 3)).drew)) (hg2.block w.heap.size (by simp; omega) (hne _ (.inl rfl)))).trans ((Below.frozen (B := wr.heap.size) (w := wr) (p := ⟨w.heap.size, yn, none⟩) (by (repeat (first | with_reducible exact Below.refl _ _ | with_reducible assumption | with_reducible refine below_drewN0 ?_ _ | with_reducible refine Below.drew ?_ | with_reducible refine Below.alloc ?_ ?_ _ | with_reducible refine Below.setCell ?_ ?_ _ | go_size | exact Below.size (by assumption)))) hlB).trans hfz)))
         all_goals
           go_wp2_with fail
           go_meet
           have hR2 := RowsI.store (hR.out.below (w' := (((wr.alloc (Obj.cells #[Value.int .i64 (xn : Int), Value.int .i64 (yn : Int)] 28)).alloc (Obj.cells #[Value.int .i64 (xn : Int)] 3)).drew)) (B' := wr.heap.size) (by (repeat (first | with_reducible exact Below.refl _ _ | with_reducible assumption | with_reducible refine below_drewN0 ?_ _ | with_reducible refine Below.drew ?_ | with_reducible refine Below.alloc ?_ ?_ _ | with_reducible refine Below.setCell ?_ ?_ _ | go_size | exact Below.size (by assumption)))) (Nat.le_refl _)) yn HV.out (l' := l ++ [(xn : Int)]) (own_cast hown2 (Nat.le_refl _) (by simp) (by simp [icells])) hg2 hat2
           rw [rowsF_set n _ (fun v => lowL (es.take (k + 1)) v) yn yn1 _ (by (rw [lowL_one es k xn yn HXY.out, if_pos rfl, HL.out])) (fun v hv => by (rw [lowL_one es k xn yn HXY.out, if_neg (by omega)]))] at hR2
           have hb9 := Below.grown (Below.trans hb (Below.mono (B := wr.heap.size) (by (repeat (first | with_reducible exact Below.refl _ _ | with_reducible assumption | with_reducible refine below_drewN0 ?_ _ | with_reducible refine Below.drew ?_ | with_reducible refine Below.alloc ?_ ?_ _ | with_reducible refine Below.setCell ?_ ?_ _ | go_size | exact Below.size (by assumption)))) hb.size)) hg2 (by have := hb.size; go_size) (fun g hg => by have := (own_lt0 HO.out g hg).1; omega)
           exact ⟨_, rfl, hR2, hb9.setCell (p := ⟨w.heap.size, yn, none⟩) (Nat.le_refl _) _⟩
       case rest =>
         obtain ⟨vs', rfl, hR', hbc⟩ := hcut
         go_wp2_with fail
         go_roundw
         case rel => exact ⟨k + 1, vs', by omega, by go_num, hR', hbc⟩
         case measure => simp [intOf]; omega)
    · obtain rfl : k = es.length := by omega
      have hR1 : rowsF n (fun v => lowL (es.take es.length) v) = rowsF n (fun v => lowL es v ++ highL (es.take 0) v) := rowsF_congr n _ _ (fun v _ => by simp [highL])
      rw [hR1] at hR
      clear hR1
      go_wp2_with fail
      go_loopw [34] (fun i wr => ∃ (k : Nat) (vs : List Value), k ≤ es.length ∧ i = .int .i64 k ∧ Hid (RowsI wr 26 3 (w.heap.size + 1) w.heap.size vs (rowsF n (fun v => lowL es v ++ highL (es.take k) v))) ∧ Below w.heap.size w wr) (fun i _ => es.length - (intOf i).toNat)
      case atStart => exact ⟨0, _, Nat.zero_le _, rfl, hR, hb⟩
      case round =>
        clear hR hb hlt hk
        obtain ⟨k, vs, hk, rfl, hR, hb⟩ := hrel
        by_cases hlt : k < es.length
        · obtain ⟨⟨x, y⟩, hxy⟩ : ∃ e, es[k]? = some e := ⟨es[k], by simp [hlt]⟩
          obtain ⟨b, o, rfl, hbl, e1, e2⟩ := (hr.below hb).pair' k _ hxy
          obtain ⟨x0, x1, y0, y1⟩ := HOK.out _ (List.mem_of_getElem? hxy)
          dsimp only at x0 x1 y0 y1
          obtain ⟨xn, rfl⟩ : ∃ m : Nat, x = m := ⟨x.toNat, by omega⟩
          obtain ⟨yn, rfl⟩ : ∃ m : Nat, y = m := ⟨y.toNat, by omega⟩
          (have yn1 : xn < n := by omega
           have HXY := Lib.hid hxy
           clear hxy
           obtain ⟨v, A1, c1, hv, rfl, hc1, hrd, ho, hcell⟩ := hR.out.get xn _ (rowsF_get _ _ _ yn1)
           have hlow : ((fun v => lowL es v ++ highL (es.take k) v) xn).length ≤ es.length + es.length := by simp only; first | (have := lowL_length (es.take k) xn; have := List.length_take_le k es; omega) | (rw [List.length_append]; have := lowL_length es xn; have := highL_length (es.take k) xn; have := List.length_take_le k es; omega)
           have htk := List.length_take_le k es
           have hfz := hR.out.frozen xn
           have hlB := hR.out.lt
           have HV := Lib.hid hv
           have HO := Lib.hid ho
           clear hv ho hrd
           have hl0 : ∃ l, l = (fun v => lowL es v ++ highL (es.take k) v) xn := ⟨_, rfl⟩
           obtain ⟨l, hl⟩ := hl0
           simp only [← hl] at hlow hc1 hcell HV HO
           have HL := Lib.hid hl
           clear hl
           have hA1 : Below wr.heap.size wr (wr.alloc (Obj.cells #[Value.int .i64 (xn : Int), Value.int .i64 (yn : Int)] 28)) := by (repeat (first | with_reducible exact Below.refl _ _ | with_reducible assumption | with_reducible refine below_drewN0 ?_ _ | with_reducible refine Below.drew ?_ | with_reducible refine Below.alloc ?_ ?_ _ | with_reducible refine Below.setCell ?_ ?_ _ | go_size | exact Below.size (by assumption)))
           have hE := blk2 (heap_alloc_new wr (Obj.cells #[Value.int .i64 (xn : Int), Value.int .i64 (yn : Int)] 28))
           have HS := Lib.hid (fun (w' : World) (h : Below (wr.heap.size + 1) (wr.alloc (Obj.cells #[Value.int .i64 (xn : Int), Value.int .i64 (yn : Int)] 28)) w') => (⟨(h.cell (p := ⟨w.heap.size, xn, none⟩) (by dsimp only; omega)).trans ((Below.cell (p := ⟨w.heap.size, xn, none⟩) hA1 hlB).trans hcell), (h.cell (p := ⟨wr.heap.size, 0, none⟩) (by dsimp only; omega)).trans hE.1, (h.cell (p := ⟨wr.heap.size, 1, none⟩) (by dsimp only; omega)).trans hE.2.1⟩ :
             w'.cell? ⟨w.heap.size, xn, none⟩ = some (.slice A1 l.length c1) ∧ w'.cell? ⟨wr.heap.size, 0, none⟩ = some (.int .i64 (xn : Int)) ∧ w'.cell? ⟨wr.heap.size, 1, none⟩ = some (.int .i64 (yn : Int))))
           go_upto_block 3 with fail
           go_cut [5] (fun v5 wc => ∃ vs' : List Value, v5 = .slice (some ⟨w.heap.size, 0, none⟩) n n ∧ Hid (RowsI wc 26 3 (w.heap.size + 1) w.heap.size vs' (rowsF n (fun v => lowL es v ++ highL (es.take (k + 1)) v))) ∧ Below w.heap.size w wc)
           case first =>
             go_wp2_with fail
             go_region_law
               (first
                 | (refine step_app EI_int rfl (.tmp 45) (.tmp 48) rfl (w.heap.size + 1) (.slice A1 l.length c1) l.length (icells l) rfl ?_ (some ⟨_, 0, none⟩) 1 1 [.int .i64 (yn : Int)] rfl ?_ rfl ?_ ?_ ?_ ?_
                    · exact own_below0 HO.out (by (repeat (first | with_reducible exact Below.refl _ _ | with_reducible assumption | with_reducible refine below_drewN0 ?_ _ | with_reducible refine Below.drew ?_ | with_reducible refine Below.alloc ?_ ?_ _ | with_reducible refine Below.setCell ?_ ?_ _ | go_size | exact Below.size (by assumption))))
                    · exact reads_new' wr _ [_] _
                    · simp [Value.oneCell']
                    · omega
                    · go_size
                    intro v2 w2 hown2 hg2 hat2
                    obtain ⟨A2, c2, rfl, hc2, _⟩ := own_reads0 hown2
                    have hne : ∀ g, (g = w.heap.size ∨ g = wr.heap.size) → some g ≠ (Value.slice A1 l.length c1).ownBlock := fun g hg hx => by
                      have h9 := own_lt0 HO.out g hx.symm
                      omega
                    have hS1 := HS.out (((wr.alloc (Obj.cells #[Value.int .i64 (xn : Int), Value.int .i64 (yn : Int)] 28)).alloc (Obj.cells #[Value.int .i64 (yn : Int)] 3)).drew) (by (repeat (first | with_reducible exact Below.refl _ _ | with_reducible assumption | with_reducible refine below_drewN0 ?_ _ | with_reducible refine Below.drew ?_ | with_reducible refine Below.alloc ?_ ?_ _ | with_reducible refine Below.setCell ?_ ?_ _ | go_size | exact Below.size (by assumption))))
                    have hS2 := (⟨hg2.cell hS1.1 (hne _ (.inl rfl)), hg2.cell hS1.2.1 (hne _ (.inr rfl)), hg2.cell hS1.2.2 (hne _ (.inr rfl))⟩ : w2.cell? ⟨w.heap.size, xn, none⟩ = some (.slice A1 l.length c1) ∧ w2.cell? ⟨wr.heap.size, 0, none⟩ = some (.int .i64 (xn : Int)) ∧ w2.cell? ⟨wr.heap.size, 1, none⟩ = some (.int .i64 (yn : Int)))
                    obtain ⟨s0, s1, s2⟩ := id hS2
                    have hz2 : w2.frozen? ⟨w.heap.size, xn, none⟩ = false := (World.frozen?_of_block (w := (((wr.alloc (Obj.cells #[Value.int .i64 (xn : Int), Value.int .i64 (yn : Int)] 28)).alloc (Obj.cells #[Value.int .i64 (yn : Int)] 3)).drew)) (hg2.block w.heap.size (by simp; omega) (hne _ (.inl rfl)))).trans ((Below.frozen (B := wr.heap.size) (w := wr) (p := ⟨w.heap.size, xn, none⟩) (by (repeat (first | with_reducible exact Below.refl _ _ | with_reducible assumption | with_reducible refine below_drewN0 ?_ _ | with_reducible refine Below.drew ?_ | with_reducible refine Below.alloc ?_ ?_ _ | with_reducible refine Below.setCell ?_ ?_ _ | go_size | exact Below.size (by assumption)))) hlB).trans hfz)))
             all_goals
               go_wp2_with fail
               go_meet
               have hR2 := RowsI.store (hR.out.below (w' := (((wr.alloc (Obj.cells #[Value.int .i64 (xn : Int), Value.int .i64 (yn : Int)] 28)).alloc (Obj.cells #[Value.int .i64 (yn : Int)] 3)).drew)) (B' := wr.heap.size) (by (repeat (first | with_reducible exact Below.refl _ _ | with_reducible assumption | with_reducible refine below_drewN0 ?_ _ | with_reducible refine Below.drew ?_ | with_reducible refine Below.alloc ?_ ?_ _ | with_reducible refine Below.setCell ?_ ?_ _ | go_size | exact Below.size (by assumption)))) (Nat.le_refl _)) xn HV.out (l' := l ++ [(yn : Int)]) (own_cast hown2 (Nat.le_refl _) (by simp) (by simp [icells])) hg2 hat2
               rw [rowsF_set n _ (fun v => lowL es v ++ highL (es.take (k + 1)) v) xn yn1 _ (by (rw [highL_one es k xn yn HXY.out, if_pos rfl, HL.out, List.append_assoc])) (fun v hv => by (rw [highL_one es k xn yn HXY.out, if_neg (by omega)]))] at hR2
               have hb9 := Below.grown (Below.trans hb (Below.mono (B := wr.heap.size) (by (repeat (first | with_reducible exact Below.refl _ _ | with_reducible assumption | with_reducible refine below_drewN0 ?_ _ | with_reducible refine Below.drew ?_ | with_reducible refine Below.alloc ?_ ?_ _ | with_reducible refine Below.setCell ?_ ?_ _ | go_size | exact Below.size (by assumption)))) hb.size)) hg2 (by have := hb.size; go_size) (fun g hg => by have := (own_lt0 HO.out g hg).1; omega)
               exact ⟨_, rfl, hR2, hb9.setCell (p := ⟨w.heap.size, xn, none⟩) (Nat.le_refl _) _⟩
           case rest =>
             obtain ⟨vs', rfl, hR', hbc⟩ := hcut
             go_wp2_with fail
             go_roundw
             case rel => exact ⟨k + 1, vs', by omega, by go_num, hR', hbc⟩
             case measure => simp [intOf]; omega)
        · obtain rfl : k = es.length := by omega
          rw [List.take_length] at hR
          go_wp2_with fail
          go_ret
          exact ⟨_, vs, rfl, Nat.le_refl _, hR, hb⟩

end Go.Proofs.Ytglhdoibglafbaa

/- Walks of graph's edge, there, the binary search, place, Index, Has. -/
namespace Go.Proofs.Ytglhdoibglafbaa
open Go Go.RowKit
set_option maxRecDepth 100000
set_option linter.unusedVariables false

theorem edge_any (a b : Int) (w : World) :
    Calls Try.prog 65 #[.int .i64 a, .int .i64 b] w fun e w' => e = .returned (.agg #[.int .i64 (min a b), .int .i64 (max a b)]) ∧ Below w.heap.size w w' := by
  go_enter Try.func65, Try.ntmps65
  go_wp2 <;> go_returns <;> exact ⟨by simp; omega, by (repeat (first | with_reducible exact Below.refl _ _ | with_reducible assumption | with_reducible refine below_drewN0 ?_ _ | with_reducible refine Below.drew ?_ | with_reducible refine Below.alloc ?_ ?_ _ | with_reducible refine Below.setCell ?_ ?_ _ | go_size | exact Below.size (by assumption)))⟩

theorem there_any (n a b : Int) (w : World) :
    Calls Try.prog 66 #[.int .i64 n, .int .i64 a, .int .i64 b] w fun e w' => e = .returned (.bool (decide (0 ≤ min a b) && decide (max a b < n))) ∧ w = w' := by
  generalize hx : min a b = x
  generalize hy : max a b = y
  by_cases h : 0 ≤ x <;> by_cases h2 : y < n <;>
  (go_enter Try.func66, Try.ntmps66
   go_wp2 <;> go_ret <;> simp_all <;> omega)

set_option maxHeartbeats 2000000 in
theorem bs_any (es : List (Int × Int)) (A : Option Addr) (c : Nat) (w : World) (hr : Reads w A (pcells es)) (hc : es.length ≤ c) (hm : es.length ≤ 4611686018427387903) (x y : Int) (p : Nat) (hp : p ≤ es.length)
    (h1 : ∀ j e, j < p → es[j]? = some e → cmpE e.1 e.2 x y < 0) (h2 : ∀ j e, p ≤ j → es[j]? = some e → 0 ≤ cmpE e.1 e.2 x y)
    (fnd : Bool) (h3 : es[p]? = none → fnd = false) (h4 : ∀ e, es[p]? = some e → fnd = decide (cmpE e.1 e.2 x y = 0)) :
    Calls Try.prog 98 #[.slice A es.length c, .agg #[.int .i64 x, .int .i64 y], .func (.func 68) #[.agg #[]] #[]] w fun e w' =>
      e = .returned (.tuple #[.int .i64 p, .bool fnd]) ∧ Below w.heap.size w w' := by
  have H1 := Lib.hid h1
  have H2 := Lib.hid h2
  have H3 := Lib.hid h3
  have H4 := Lib.hid h4
  clear h1 h2 h3 h4
  have HC := fun a b W => compareE a b x y W
  go_enter Try.func98, Try.ntmps98
  go_wp2
  generalize hW : w.alloc (Obj.cells #[Value.int IntKind.i64 x, Value.int IntKind.i64 y] 28) = W
  have hbW : Below w.heap.size w W := by rw [← hW]; go_grown
  have hr1 := hr.below hbW
  have hx0 : W.cell? ⟨w.heap.size, 0, none⟩ = some (.int .i64 x) := by rw [← hW]; simp [go_sem]
  have hx1 : W.cell? ⟨w.heap.size, 1, none⟩ = some (.int .i64 y) := by rw [← hW]; simp [go_sem]
  have hgW : w.heap.size < W.heap.size := by rw [← hW]; simp
  clear hW hr
  generalize hg : w.heap.size = g at *
  go_loopw [9, 10] (fun i j wr => ∃ lo hi : Nat, i = .int .i64 lo ∧ j = .int .i64 hi ∧ lo ≤ p ∧ p ≤ hi ∧ hi ≤ es.length ∧ Below W.heap.size W wr) (fun i j _ => (intOf j - intOf i).toNat)
  case atStart => exact ⟨0, es.length, rfl, rfl, Nat.zero_le _, hp, Nat.le_refl _, Below.refl _ _⟩
  case round =>
    obtain ⟨lo, hi, rfl, rfl, hlp, hph, hhn, hb⟩ := hrel
    have hx0' := (hb.cell (p := ⟨g, 0, none⟩) hgW).trans hx0
    have hx1' := (hb.cell (p := ⟨g, 1, none⟩) hgW).trans hx1
    have hWr : W.heap.size ≤ wr.heap.size := hb.size
    have hfin : ∀ w', Below W.heap.size wr w' → Below w.heap.size w w' := fun w' h' => by rw [hg]; exact hbW.trans ((hb.trans h').mono (by omega))
    by_cases hlt : lo < hi
    · obtain ⟨h, hh, k1, k2⟩ : ∃ h : Nat, ((lo : Int) + hi) / 2 = h ∧ lo ≤ h ∧ h < hi := ⟨(lo + hi) / 2, by omega, by omega, by omega⟩
      obtain ⟨⟨x', y'⟩, hxy⟩ : ∃ e, es[h]? = some e := ⟨es[h], by simp⟩
      obtain ⟨b, o, rfl, hbl, e1, e2⟩ := (hr1.below hb).pair' h _ hxy
      have HXY := Lib.hid hxy
      clear hxy hx0 hx1 hr1
      have K1 : Hid (p ≤ h → 0 ≤ cmpE x' y' x y) := fun hle => H2.out h _ hle HXY.out
      have K2 : Hid (h < p → cmpE x' y' x y < 0) := fun hle => H1.out h _ hle HXY.out
      have HC1 := fun W => HC x' y' W
      generalize cmpE x' y' x y = cp at K1 K2 HC1
      clear H1 H2 HC HXY
      go_wp2_with fail
      (refine wp_quiet_tail 6 (by kernel_rfl) (by kernel_rfl) ?_
       simp only [List.take_succ_cons, List.take_zero, List.drop_succ_cons, List.drop_zero]
       repeat (go_big_quiet_step (fail))
       refine wpQuiet_nil ?_
       intro _ hw'
       obtain ⟨nq, hw''⟩ := hw'
       subst hw'')
      by_cases hcp : cp < 0
      · go_wp2_with (go_at_call 68; refine (HC1 _).mono ?_; rintro e w1 ⟨rfl, hb1⟩)
        go_roundw
        case rel => exact ⟨h + 1, hi, by go_num, rfl, Nat.lt_of_not_le fun hle => by have := K1.out hle; omega, hph, hhn, hb.trans (Below.trans (by (repeat (first | with_reducible exact Below.refl _ _ | with_reducible assumption | with_reducible refine below_drewN0 ?_ _ | with_reducible refine Below.drew ?_ | with_reducible refine Below.alloc ?_ ?_ _ | with_reducible refine Below.setCell ?_ ?_ _ | go_size | exact Below.size (by assumption)))) (hb1.mono (by simp; omega)))⟩
        case measure => simp [intOf]; omega
      · go_wp2_with (go_at_call 68; refine (HC1 _).mono ?_; rintro e w1 ⟨rfl, hb1⟩)
        go_roundw
        case rel => exact ⟨lo, h, rfl, rfl, hlp, Nat.le_of_not_lt fun hle => by have := K2.out hle; omega, by omega, hb.trans (Below.trans (by (repeat (first | with_reducible exact Below.refl _ _ | with_reducible assumption | with_reducible refine below_drewN0 ?_ _ | with_reducible refine Below.drew ?_ | with_reducible refine Below.alloc ?_ ?_ _ | with_reducible refine Below.setCell ?_ ?_ _ | go_size | exact Below.size (by assumption)))) (hb1.mono (by simp; omega)))⟩
        case measure => simp [intOf]; omega
    · obtain rfl : lo = p := by omega
      by_cases hend : lo < es.length
      · obtain ⟨⟨x', y'⟩, hxy⟩ : ∃ e, es[lo]? = some e := ⟨es[lo], by simp⟩
        obtain ⟨b, o, rfl, hbl, e1, e2⟩ := (hr1.below hb).pair' lo _ hxy
        have HE := H4.out _ hxy
        dsimp only at HE
        have HXY := Lib.hid hxy
        clear hxy hx0 hx1 hr1
        have HC1 := fun W => HC x' y' W
        generalize cmpE x' y' x y = cp at HE HC1
        have HE := Lib.hid HE
        clear H1 H2 HC HXY
        have HS := Lib.hid (fun (w' : World) (h : Below wr.heap.size wr w') => (⟨(h.cell (p := ⟨g, 0, none⟩) (by simp; omega)).trans hx0', (h.cell (p := ⟨g, 1, none⟩) (by simp; omega)).trans hx1', (h.cell (p := ⟨b, o + lo * 2, none⟩) hbl).trans e1, (h.cell (p := ⟨b, o + lo * 2 + 1, none⟩) hbl).trans e2⟩ : w'.cell? ⟨g, 0, none⟩ = some (.int .i64 x) ∧ w'.cell? ⟨g, 1, none⟩ = some (.int .i64 y) ∧ w'.cell? ⟨b, o + lo * 2, none⟩ = some (.int .i64 x') ∧ w'.cell? ⟨b, o + lo * 2 + 1, none⟩ = some (.int .i64 y')))
        go_wp2_with fail
        go_region_held3 (fun w' => w'.cell? ⟨g, 0, none⟩ = some (.int .i64 x) ∧ w'.cell? ⟨g, 1, none⟩ = some (.int .i64 y) ∧ w'.cell? ⟨b, o + lo * 2, none⟩ = some (.int .i64 x') ∧ w'.cell? ⟨b, o + lo * 2 + 1, none⟩ = some (.int .i64 y')) (first | exact HS.out _ (Below.refl _ _) | exact HS.out _ (Below.trans (by (repeat (first | with_reducible exact Below.refl _ _ | with_reducible assumption | with_reducible refine below_drewN0 ?_ _ | with_reducible refine Below.drew ?_ | with_reducible refine Below.alloc ?_ ?_ _ | with_reducible refine Below.setCell ?_ ?_ _ | go_size | exact Below.size (by assumption)))) (hb1.mono (by simp))) | (refine HS.out _ ?_; (repeat (first | with_reducible exact Below.refl _ _ | with_reducible assumption | with_reducible refine below_drewN0 ?_ _ | with_reducible refine Below.drew ?_ | with_reducible refine Below.alloc ?_ ?_ _ | with_reducible refine Below.setCell ?_ ?_ _ | go_size | exact Below.size (by assumption))); done)) (first | (go_at_call 68; refine (HC1 _).mono ?_; rintro e w1 ⟨rfl, hb1⟩))
        go_wp2_with fail
        go_ret2
        exact ⟨by rw [HE.out]; rfl, hfin _ (Below.trans (by (repeat (first | with_reducible exact Below.refl _ _ | with_reducible assumption | with_reducible refine below_drewN0 ?_ _ | with_reducible refine Below.drew ?_ | with_reducible refine Below.alloc ?_ ?_ _ | with_reducible refine Below.setCell ?_ ?_ _ | go_size | exact Below.size (by assumption)))) (hb1.mono (by simp; omega)))⟩
      · have HE := H3.out (List.getElem?_eq_none (by omega))
        subst HE
        clear H1 H2 H4 HC hx0 hx1 hr1
        go_wp2_with fail
        go_quiet (fail)
        go_wp2_with fail
        go_ret2
        exact ⟨rfl, hfin _ (by (repeat (first | with_reducible exact Below.refl _ _ | with_reducible assumption | with_reducible refine below_drewN0 ?_ _ | with_reducible refine Below.drew ?_ | with_reducible refine Below.alloc ?_ ?_ _ | with_reducible refine Below.setCell ?_ ?_ _ | go_size | exact Below.size (by assumption))))⟩

end Go.Proofs.Ytglhdoibglafbaa

/- Walks of graph's place, Index, Has. -/
namespace Go.Proofs.Ytglhdoibglafbaa
open Go Go.RowKit
set_option maxRecDepth 100000
set_option linter.unusedVariables false

set_option maxHeartbeats 2000000 in
theorem place_any (n a b : Int) (es : List (Int × Int)) (A : Option Addr) (c : Nat) (w : World) (hr : Reads w A (pcells es)) (hc : es.length ≤ c) (hm : es.length ≤ 4611686018427387903) (x y : Int) (hx : min a b = x) (hy : max a b = y) (p : Nat) (hp : p ≤ es.length)
    (h1 : ∀ j e, j < p → es[j]? = some e → cmpE e.1 e.2 x y < 0) (h2 : ∀ j e, p ≤ j → es[j]? = some e → 0 ≤ cmpE e.1 e.2 x y)
    (fnd : Bool) (h3 : es[p]? = none → fnd = false) (h4 : ∀ e, es[p]? = some e → fnd = decide (cmpE e.1 e.2 x y = 0)) :
    Calls Try.prog 70 #[.agg #[.int .i64 n, .slice A es.length c], .int .i64 a, .int .i64 b] w fun e w' => e = .returned (.tuple #[.int .i64 p, .bool fnd]) ∧ Below w.heap.size w w' := by
  have HB := fun W hR => bs_any es A c W hR hc hm x y p hp h1 h2 fnd h3 h4
  have HE := fun W => edge_any a b W
  rw [hx, hy] at HE
  clear h1 h2 h3 h4 hx hy
  go_enter Try.func70, Try.ntmps70
  go_wp2_with fail
  obtain ⟨V, hV⟩ : ∃ V, V = w.alloc (Obj.cells #[Value.int IntKind.i64 n, Value.slice A es.length c] 25) := ⟨_, rfl⟩
  rw [← hV]
  have hcV : V.cell? ⟨w.heap.size, 1, none⟩ = some (.slice A es.length c) := by rw [hV]; simp [go_sem]
  have hbV : Below w.heap.size w V := by rw [hV]; exact Below.alloc (Below.refl _ _) (Nat.le_refl _) _
  have hsV : w.heap.size < V.heap.size := by rw [hV]; simp
  have hrV := hr.below hbV
  clear hV hr
  have HS := Lib.hid (fun (w' : World) (h : Below V.heap.size V w') => ((h.cell (p := ⟨w.heap.size, 1, none⟩) hsV).trans hcV : w'.cell? ⟨w.heap.size, 1, none⟩ = some (.slice A es.length c)))
  go_region_held3 (fun w' => w'.cell? ⟨w.heap.size, 1, none⟩ = some (.slice A es.length c)) (first | exact HS.out _ (Below.refl _ _) | exact HS.out _ hbw | exact HS.out _ hbx | (refine HS.out _ ?_; (repeat (first | with_reducible exact Below.refl _ _ | with_reducible assumption | with_reducible refine below_drewN0 ?_ _ | with_reducible refine Below.drew ?_ | with_reducible refine Below.alloc ?_ ?_ _ | with_reducible refine Below.setCell ?_ ?_ _ | go_size | exact Below.size (by assumption))); done)) (first | (go_at_call 65; refine (HE _).mono ?_; rintro e w1 ⟨rfl, hb1⟩; have hbw : Below V.heap.size V w1 := Below.trans (by (repeat (first | with_reducible exact Below.refl _ _ | with_reducible assumption | with_reducible refine below_drewN0 ?_ _ | with_reducible refine Below.drew ?_ | with_reducible refine Below.alloc ?_ ?_ _ | with_reducible refine Below.setCell ?_ ?_ _ | go_size | exact Below.size (by assumption)))) (hb1.mono (by simp))) | (go_at_call 98; refine (HB _ ?_).mono ?_; (refine hrV.below ?_; (repeat (first | with_reducible exact Below.refl _ _ | with_reducible assumption | with_reducible refine below_drewN0 ?_ _ | with_reducible refine Below.drew ?_ | with_reducible refine Below.alloc ?_ ?_ _ | with_reducible refine Below.setCell ?_ ?_ _ | go_size | exact Below.size (by assumption)))); rintro e w2 ⟨rfl, hb2⟩; have hbx : Below V.heap.size V w2 := Below.trans (by (repeat (first | with_reducible exact Below.refl _ _ | with_reducible assumption | with_reducible refine below_drewN0 ?_ _ | with_reducible refine Below.drew ?_ | with_reducible refine Below.alloc ?_ ?_ _ | with_reducible refine Below.setCell ?_ ?_ _ | go_size | exact Below.size (by assumption)))) (hb2.mono (by have := hbw.size; simp; omega))))
  all_goals
    go_wp2_with fail
    go_ret2
    exact ⟨rfl, hbV.trans (hbx.mono (by omega))⟩

set_option maxHeartbeats 2000000 in
theorem index_any (n a b : Int) (es : List (Int × Int)) (A : Option Addr) (c : Nat) (w : World) (hr : Reads w A (pcells es)) (hc : es.length ≤ c) (hm : es.length ≤ 4611686018427387903) :
    Calls Try.prog 35 #[.agg #[.int .i64 n, .slice A es.length c], .int .i64 a, .int .i64 b] w fun e w' => e = .returned (.int .i64 (indexB n es a b)) ∧ Below w.heap.size w w' := by
  have HRt := fun W hR => right_any n es A c W hR hc hm
  unfold indexB
  generalize hrb : rightB n es = rb at HRt ⊢
  cases rb with
  | false =>
    rw [if_neg (by simp)]
    go_enter Try.func35, Try.ntmps35
    go_wp2_with (go_at_call 31; refine (HRt _ ?_).mono ?_; exact hr.below (by (repeat (first | with_reducible exact Below.refl _ _ | with_reducible assumption | with_reducible refine below_drewN0 ?_ _ | with_reducible refine Below.drew ?_ | with_reducible refine Below.alloc ?_ ?_ _ | with_reducible refine Below.setCell ?_ ?_ _ | go_size | exact Below.size (by assumption)))); rintro e w1 ⟨rfl, hb1⟩)
    go_ret
    exact ⟨rfl, Below.trans (by (repeat (first | with_reducible exact Below.refl _ _ | with_reducible assumption | with_reducible refine below_drewN0 ?_ _ | with_reducible refine Below.drew ?_ | with_reducible refine Below.alloc ?_ ?_ _ | with_reducible refine Below.setCell ?_ ?_ _ | go_size | exact Below.size (by assumption)))) (hb1.mono (by simp))⟩
  | true =>
    rw [if_pos rfl]
    have hinc := ((right_iff n es).1 hrb).inc
    clear hrb
    obtain ⟨p, hp, k1, k2⟩ := lb_ex (min a b, max a b) es hinc
    obtain ⟨fnd, k3, k4⟩ : ∃ fnd : Bool, (es[p]? = none → fnd = false) ∧ (∀ d, es[p]? = some d → fnd = decide (cmpE d.1 d.2 (min a b) (max a b) = 0)) := by
      cases hpp : es[p]? with
      | none => exact ⟨false, fun _ => rfl, fun d h => by cases h⟩
      | some d => exact ⟨decide (cmpE d.1 d.2 (min a b) (max a b) = 0), fun h => (by cases h), fun d' h => (by cases h; rfl)⟩
    rw [lb_find (e := (min a b, max a b)) k1 k2 hinc fnd k3 k4]
    have HP := fun W hR => place_any n a b es A c W hR hc hm _ _ rfl rfl p hp (fun j e hj he => (cmpE_lt _ _ _ _).2 (k1 j e hj he)) (fun j e hj he => Int.not_lt.1 fun h => k2 j e hj he ((cmpE_lt _ _ _ _).1 h)) fnd k3 k4
    clear k1 k2 k3 k4 hinc hp
    cases fnd with
    | false =>
      rw [if_neg (by simp)]
      go_enter Try.func35, Try.ntmps35
      go_wp2_with (first | (go_at_call 31; refine (HRt _ ?_).mono ?_; exact hr.below (by (repeat (first | with_reducible exact Below.refl _ _ | with_reducible assumption | with_reducible refine below_drewN0 ?_ _ | with_reducible refine Below.drew ?_ | with_reducible refine Below.alloc ?_ ?_ _ | with_reducible refine Below.setCell ?_ ?_ _ | go_size | exact Below.size (by assumption)))); rintro e w1 ⟨rfl, hb1⟩; have hbw : Below w.heap.size w w1 := Below.trans (by (repeat (first | with_reducible exact Below.refl _ _ | with_reducible assumption | with_reducible refine below_drewN0 ?_ _ | with_reducible refine Below.drew ?_ | with_reducible refine Below.alloc ?_ ?_ _ | with_reducible refine Below.setCell ?_ ?_ _ | go_size | exact Below.size (by assumption)))) (hb1.mono (by simp)); obtain ⟨a0, a1, a2, a3, a4⟩ := blk2 ((hb1.block w.heap.size (by simp)).trans (heap_alloc_new _ _))) | (go_at_call 70; refine (HP _ (hr.below ?_)).mono ?_; (repeat (first | with_reducible exact Below.refl _ _ | with_reducible assumption | with_reducible refine below_drewN0 ?_ _ | with_reducible refine Below.drew ?_ | with_reducible refine Below.alloc ?_ ?_ _ | with_reducible refine Below.setCell ?_ ?_ _ | go_size | exact Below.size (by assumption))); rintro e w2 ⟨rfl, hb2⟩))
      go_ret
      exact ⟨rfl, hbw.trans (hb2.mono hbw.size)⟩
    | true =>
      rw [if_pos rfl]
      go_enter Try.func35, Try.ntmps35
      go_wp2_with (first | (go_at_call 31; refine (HRt _ ?_).mono ?_; exact hr.below (by (repeat (first | with_reducible exact Below.refl _ _ | with_reducible assumption | with_reducible refine below_drewN0 ?_ _ | with_reducible refine Below.drew ?_ | with_reducible refine Below.alloc ?_ ?_ _ | with_reducible refine Below.setCell ?_ ?_ _ | go_size | exact Below.size (by assumption)))); rintro e w1 ⟨rfl, hb1⟩; have hbw : Below w.heap.size w w1 := Below.trans (by (repeat (first | with_reducible exact Below.refl _ _ | with_reducible assumption | with_reducible refine below_drewN0 ?_ _ | with_reducible refine Below.drew ?_ | with_reducible refine Below.alloc ?_ ?_ _ | with_reducible refine Below.setCell ?_ ?_ _ | go_size | exact Below.size (by assumption)))) (hb1.mono (by simp)); obtain ⟨a0, a1, a2, a3, a4⟩ := blk2 ((hb1.block w.heap.size (by simp)).trans (heap_alloc_new _ _))) | (go_at_call 70; refine (HP _ (hr.below ?_)).mono ?_; (repeat (first | with_reducible exact Below.refl _ _ | with_reducible assumption | with_reducible refine below_drewN0 ?_ _ | with_reducible refine Below.drew ?_ | with_reducible refine Below.alloc ?_ ?_ _ | with_reducible refine Below.setCell ?_ ?_ _ | go_size | exact Below.size (by assumption))); rintro e w2 ⟨rfl, hb2⟩))
      go_ret
      exact ⟨rfl, hbw.trans (hb2.mono hbw.size)⟩

theorem has_any (n a b : Int) (es : List (Int × Int)) (A : Option Addr) (c : Nat) (w : World) (hr : Reads w A (pcells es)) (hc : es.length ≤ c) (hm : es.length ≤ 4611686018427387903) :
    Calls Try.prog 33 #[.agg #[.int .i64 n, .slice A es.length c], .int .i64 a, .int .i64 b] w fun e w' => e = .returned (.bool (hasB n es a b)) ∧ Below w.heap.size w w' := by
  have HI := fun W hR => index_any n a b es A c W hR hc hm
  unfold hasB
  generalize indexB n es a b = r at HI ⊢
  go_enter Try.func33, Try.ntmps33
  go_wp2_with (go_at_call 35; refine (HI _ (hr.below ?_)).mono ?_; (repeat (first | with_reducible exact Below.refl _ _ | with_reducible assumption | with_reducible refine below_drewN0 ?_ _ | with_reducible refine Below.drew ?_ | with_reducible refine Below.alloc ?_ ?_ _ | with_reducible refine Below.setCell ?_ ?_ _ | go_size | exact Below.size (by assumption))); rintro e w1 ⟨rfl, hb1⟩)
  go_ret
  exact ⟨rfl, Below.trans (by (repeat (first | with_reducible exact Below.refl _ _ | with_reducible assumption | with_reducible refine below_drewN0 ?_ _ | with_reducible refine Below.drew ?_ | with_reducible refine Below.alloc ?_ ?_ _ | with_reducible refine Below.setCell ?_ ?_ _ | go_size | exact Below.size (by assumption)))) (hb1.mono (by simp))⟩

end Go.Proofs.Ytglhdoibglafbaa

/- Walks of slices.SortFunc at one edge. -/
namespace Go.Proofs.Ytglhdoibglafbaa
open Go Go.RowKit
set_option maxRecDepth 100000
set_option linter.unusedVariables false

theorem len64_1 (w : World) : Calls Try.prog 116 #[.int .u64 1] w fun e w' => e = .returned (.int .i64 1) ∧ w = w' := by
  go_enter Try.func116, Try.ntmps116
  go_wp2
  go_ret
  exact ⟨by kernel_rfl, rfl⟩

theorem len_1 (w : World) : Calls Try.prog 95 #[.int .u64 1] w fun e w' => e = .returned (.int .i64 1) ∧ w = w' := by
  go_enter Try.func95, Try.ntmps95
  go_wp2_with (go_at_call 116; refine (len64_1 _).mono ?_; rintro e w1 ⟨rfl, rfl⟩)
  go_ret
  simp

theorem ins_1 (A : Option Addr) (c : Nat) (fv : Value) (w : World) : Calls Try.prog 107 #[.slice A 1 c, .int .i64 0, .int .i64 1, fv] w fun e w' => e = .returned (.tuple #[]) ∧ w = w' := by
  go_enter Try.func107, Try.ntmps107
  go_wp2
  go_rounds 1
  go_end0
  simp

theorem pdq_1 (A : Option Addr) (c : Nat) (fv : Value) (l : Int) (w : World) : Calls Try.prog 94 #[.slice A 1 c, .int .i64 0, .int .i64 1, .int .i64 l, fv] w fun e w' => e = .returned (.tuple #[]) ∧ w = w' := by
  go_enter Try.func94, Try.ntmps94
  go_wp2
  refine wp_loop_rounds 1 ?_
  rw [rounds_succ]
  go_wp2_with (go_at_call 107; refine (ins_1 A c fv _).mono ?_; rintro e w1 ⟨rfl, rfl⟩)
  (try simp only [Exit.inBlock, Exit.then])
  refine bodyPost_ret (results_none rfl _ _ _) rfl ?_
  exact ⟨rfl, rfl⟩

theorem sort_1 (A : Option Addr) (c : Nat) (fv : Value) (w : World) : Calls Try.prog 67 #[.slice A 1 c, fv] w fun e w' => e = .returned (.tuple #[]) ∧ w = w' := by
  go_enter Try.func67, Try.ntmps67
  go_wp2_with (first | (go_at_call 95; refine (len_1 _).mono ?_; rintro e w1 ⟨rfl, rfl⟩) | (go_at_call 94; refine (pdq_1 A c fv _ _).mono ?_; rintro e w1 ⟨rfl, rfl⟩))
  go_end0
  simp

end Go.Proofs.Ytglhdoibglafbaa

/- Walks of graph.Make at one edge. -/
namespace Go.Proofs.Ytglhdoibglafbaa
open Go Go.RowKit
open Go.WideMaps (KeyLaw)
open Go.Maps (Keyed)
set_option maxRecDepth 100000
set_option linter.unusedVariables false

theorem laidOutE : laidOutB Try.prog = true := by kernel_rfl
theorem rowE : (28 : TypeId) < Try.prog.types.size := of_decide_eq_true (by kernel_rfl)
theorem cellsE : Try.prog.cellsOf 28 = 2 := by kernel_rfl
theorem cellsI : Try.prog.cellsOf 3 = 1 := by kernel_rfl
theorem wideE : (match Try.prog.underlying 28 with | some (.array _ _) | some (.struct _) => true | _ => false) = true := by rw [Try.underlying28]
theorem lawE : KeyLaw Try.prog 28 := deep_law_laid laidOutE (m := 2) (by omega) rowE (by kernel_rfl) wideE
theorem keyedE : Keyed Try.prog 28 := Keyed.of_law lawE
theorem keyTE : Try.prog.keyType 28 = true := by kernel_rfl

theorem keyE (x y : Int) (wx : (Lit.int .i64 x).wf = true) (wy : (Lit.int .i64 y).wf = true) : keyOf Try.prog 28 (.agg #[.int .i64 x, .int .i64 y]) = some (.string (keyBytes [.int .i64 x, .int .i64 y])) := by
  obtain ⟨m, hm⟩ : ∃ m, Try.prog.types.size = m + 1 := ⟨Try.prog.types.size - 1, by have : 0 < Try.prog.types.size := of_decide_eq_true (by kernel_rfl); omega⟩
  unfold keyOf
  simp only [Try.underlying28]
  rw [if_pos (by simp [keyTE, Value.formed, Try.underlying28, cellsE]), hm]
  unfold Program.keyLits
  simp only [Try.underlying28, Value.cells]
  rw [if_pos (by rw [cellsE]; simp)]
  simp [cellsI, Program.keyLits, Try.underlying3, wx, wy]

theorem wf64 (x : Int) (h1 : -9223372036854775808 ≤ x) (h2 : x ≤ 9223372036854775807) : (Lit.int .i64 x).wf = true := by
  simp [Lit.wf, IntKind.min, IntKind.max, IntKind.signed, IntKind.bits]
  omega

theorem bool_inv {v : Value} {ps : List MemPlace} {x : Bool} (h : plainElem (H := Nat) Try.prog 4 v = some (.lit (.bool x), ps)) : v = .bool x := by
  unfold plainElem at h
  rw [Try.underlying4] at h
  split at h
  · simp at h; rw [h.1]
  · simp_all
  · simp_all
  · cases h

theorem owns_far {w w' : World} {b k : Nat} {D : DataW Nat} (h : w.ownsMap Try.prog 28 (plainElem Try.prog 4) b k D) (hk : w'.heap[b]? = w.heap[b]?) : w'.ownsMap Try.prog 28 (plainElem Try.prog 4) b k D := by
  obtain ⟨es, clock, hb, r⟩ := h
  exact ⟨es, clock, hk.trans hb, r⟩

theorem wpList_look0 (w : World) {ops : Array Oper} {rest : List Oper} {o : Oper} {a : Act} {Q : Exit → Act → World → Prop}
    (hg : o.guard = none) (m x : Operand) (hop : o.op = Op.lookup 95 m x false) (b : Nat)
    (hm : a.eval m = .map (some b)) (hown : w.ownsMap Try.prog 28 (plainElem Try.prog 4) b 0 (.map [] : DataW Nat)) (key : Value) (kl : Lit) (hx : a.eval x = key) (hkey : keyOf Try.prog 28 key = some kl)
    (hK : wpList Try.prog ops Q rest (a.put o.dst (.bool false)) w) :
    wpList Try.prog ops Q (o :: rest) a w := by
  refine wpList_plain hg fun K' hK' => ?_
  obtain ⟨v, ps, hrun, hv⟩ := hown.lookup keyedE Try.underlying95 (z := .bool false) (by kernel_rfl) (zd := .lit (.bool false)) (zp := []) (plainElem_bool Try.underlying4 false) hkey
  obtain rfl := bool_inv (ps := ps) (x := false) hv
  unfold Oper.wp
  simp [execOp, hop, hm, hx, hrun, Result.andThen]
  exact hK' _ _ hK

theorem heap_set1 {w : World} {g : Nat} {a b : Value} {T : TypeId} (h : w.heap[g]? = some (.cells #[a, b] T (0, 0))) (y : Value) :
    (w.setCell ⟨g, 1, none⟩ y).heap[g]? = some (.cells #[a, y] T (0, 0)) := by
  simp [World.setCell, Array.getElem?_modify, h]

set_option maxHeartbeats 4000000 in
theorem make_1 (n a b : Int) (A : Option Addr) (c : Nat) (w : World) (hr : Reads w A (pcells [(a, b)])) (hc : 1 ≤ c) (hn0 : 0 ≤ n) (hn1 : n ≤ 4096) (x y : Int) (hx : min a b = x) (hy : max a b = y) (h0 : 0 ≤ x) (h1 : x < y) (h2 : y < n) :
    Calls Try.prog 27 #[.int .i64 n, .slice A 1 c] w fun e w' => ∃ v, e = .returned (.tuple #[.agg #[.int .i64 n, v], .int .i64 0]) ∧ w'.ownsRow w.heap.size 28 2 v 1 (pcells [(x, y)]) ∧ Below w.heap.size w w' := by
  have HE := fun W => edge_any a b W
  rw [hx, hy] at HE
  have HT := fun W => there_any n x y W
  have HT1 : (decide (0 ≤ min x y) && decide (max x y < n)) = true := by simp; omega
  rw [HT1] at HT
  have hk := keyE x y (wf64 x (by omega) (by omega)) (wf64 y (by omega) (by omega))
  have hmm := @run_makeMap Try.prog
  clear hx hy HT1
  obtain ⟨b0, o0, rfl, hbl, e1, e2⟩ := hr.pair' 0 (a, b) rfl
  simp only [Nat.zero_mul, Nat.add_zero] at e1 e2
  go_enter Try.func27, Try.ntmps27
  go_wp2_with fail
  generalize hW : ((w.alloc (Obj.cells #[Value.int IntKind.i64 0, Value.slice none 0 0] 25)).alloc (Obj.map #[] 0)).alloc (Obj.cells #[Value.int IntKind.i64 n, Value.slice none 0 0] 25) = W
  have hbW : Below w.heap.size w W := by rw [← hW]; go_grown
  have hG : Hid (W.heap[w.heap.size]? = some (.cells #[Value.int IntKind.i64 0, Value.slice none 0 0] 25 (0, 0))) := by rw [← hW]; exact Lib.hid (heap_old (heap_old (heap_alloc_new _ _)))
  have hB : Hid (W.heap[w.heap.size + 1 + 1]? = some (.cells #[Value.int IntKind.i64 n, Value.slice none 0 0] 25 (0, 0))) := by rw [← hW]; exact Lib.hid (by have h := heap_alloc_new ((w.alloc (Obj.cells #[Value.int IntKind.i64 0, Value.slice none 0 0] 25)).alloc (Obj.map #[] 0)) (Obj.cells #[Value.int IntKind.i64 n, Value.slice none 0 0] 25); rw [World.size_alloc, World.size_alloc] at h; exact h)
  have hM : W.ownsMap Try.prog 28 (plainElem Try.prog 4) (w.heap.size + 1) 0 (.map [] : DataW Nat) := by
    rw [← hW]
    have h := World.ownsMap_made (H := Nat) (w.alloc (Obj.cells #[Value.int IntKind.i64 0, Value.slice none 0 0] 25)) Try.prog 28 (plainElem Try.prog 4)
    rw [World.size_alloc] at h
    exact h.alloc _
  have hsz : W.heap.size = w.heap.size + 3 := by rw [← hW]; simp
  have e1' := (hbW.cell (p := ⟨b0, o0, none⟩) hbl).trans e1
  have e2' := (hbW.cell (p := ⟨b0, o0 + 1, none⟩) hbl).trans e2
  clear hW e1 e2 hr
  obtain ⟨p0, p1, p2, p3, p4⟩ := blk2 hB.out
  obtain ⟨q0, q1, q2, q3, q4⟩ := blk2 hG.out
  refine wp_loop_rounds 2 ?_
  rw [rounds_succ]
  go_wp2_with (first
    | (go_at_call 65; refine (HE _).mono ?_; rintro e w1 ⟨rfl, hb1⟩
       have hb1' : Below W.heap.size W w1 := Below.trans (by (repeat (first | with_reducible exact Below.refl _ _ | with_reducible assumption | with_reducible refine below_drewN0 ?_ _ | with_reducible refine Below.drew ?_ | with_reducible refine Below.alloc ?_ ?_ _ | with_reducible refine Below.setCell ?_ ?_ _ | go_size | exact Below.size (by assumption)))) (hb1.mono (by simp))
       have hs1 := hb1'.size
       have hG1 := Lib.hid ((hb1'.block w.heap.size (by omega)).trans hG.out)
       have hB1 := Lib.hid ((hb1'.block (w.heap.size + 1 + 1) (by omega)).trans hB.out)
       have hM1 := (owns_far hM (hb1'.block (w.heap.size + 1) (by omega))).alloc (Obj.cells #[Value.int IntKind.i64 x, Value.int IntKind.i64 y] 28)
       obtain ⟨r0, r1, r2, r3, r4⟩ := blk2 hB1.out
       clear hb1)
    | (go_at_call 66; refine (HT _).mono ?_; rintro e w2 ⟨rfl, rfl⟩)
    | (at_lookup; refine wpList_look0 _ rfl _ _ rfl (w.heap.size + 1) rfl hM1 _ _ rfl hk ?_)
    | (at_mapUpdate; refine wpList_mapUpdate_own _ rfl _ _ _ 95 rfl 28 4 keyedE Try.underlying95 (plainElem Try.prog 4) (w.heap.size + 1) 0 (.map []) rfl hM1 (by decide) _ _ _ rfl rfl hk (.lit (.bool true)) [] (plainElem_bool Try.underlying4 true) ?_
       intro w3 hM3 hg3
       have hs3 : w1.heap.size + 1 ≤ w3.heap.size := by have := hg3.size; rw [World.size_alloc] at this; omega
       have hG3 := Lib.hid ((hg3.block w.heap.size (by simp; omega) (by simp)).trans (heap_old hG1.out))
       have hB3 := Lib.hid ((hg3.block (w.heap.size + 1 + 1) (by simp; omega) (by simp)).trans (heap_old hB1.out))
       obtain ⟨s0, s1, s2, s3, s4⟩ := blk2 ((hg3.block w1.heap.size (by simp) (by simp; omega)).trans (heap_alloc_new _ _))
       obtain ⟨t0, t1, t2, t3, t4⟩ := blk2 hB3.out
       have hb3 : Below w.heap.size w w3 := (Below.trans hbW ((hb1'.alloc (by omega) _).mono (by omega))).grown hg3 (by simp; omega) (by simp))
    | (at_builtin; refine wpList_app EI_edge rfl (.tmp 62) (.tmp 64) rfl (w.heap.size + 3) (.slice none 0 0) 0 [] rfl (own_nil0 _ _ _ _) (some ⟨_, 0, none⟩) 1 1 [.int .i64 x, .int .i64 y] rfl ?_ rfl ?_ ?_ ?_ ?_
       · exact reads_new w3 [_, _] _
       · simp [Value.oneCell']
       · omega
       · simp; omega
       intro v4 w4 hown4 hg4 hat4
       have hG4 := Lib.hid ((hg4.block w.heap.size (by simp; omega) (by simp [Value.ownBlock])).trans (heap_old hG3.out))
       have hB4 := Lib.hid ((hg4.block (w.heap.size + 1 + 1) (by simp; omega) (by simp [Value.ownBlock])).trans (heap_old hB3.out))
       obtain ⟨u0, u1, u2, u3, u4⟩ := blk2 hB4.out
       obtain ⟨x0, x1, x2, x3, x4⟩ := blk2 hG4.out
       have hb4 : Below w.heap.size w w4 := below_app (by (repeat (first | with_reducible exact Below.refl _ _ | with_reducible assumption | with_reducible refine below_drewN0 ?_ _ | with_reducible refine Below.drew ?_ | with_reducible refine Below.alloc ?_ ?_ _ | with_reducible refine Below.setCell ?_ ?_ _ | go_size | exact Below.size (by assumption)))) hg4 (by simp; omega) (by simp [Value.ownBlock])
       obtain ⟨A4, c4, rfl, hl4, hrd4⟩ := own_reads0 hown4))
  have hB5 := Lib.hid (heap_set1 hB4.out (.slice A4 1 c4))
  generalize hW5 : w4.setCell ⟨w.heap.size + 1 + 1, 1, none⟩ (.slice A4 1 c4) = W5 at *
  have hG5 : Hid (W5.heap[w.heap.size]? = some (.cells #[Value.int IntKind.i64 0, Value.slice none 0 0] 25 (0, 0))) := by rw [← hW5]; exact Lib.hid (heap_far hG4.out (by simp; omega) _)
  have hown5 : W5.ownsRow (w.heap.size + 3) 28 2 (.slice A4 (0 + 1) c4) (0 + 1) ([] ++ [.int .i64 x, .int .i64 y]) := by rw [← hW5]; exact own_set hown4 (by simp) _
  have hb5 : Below w.heap.size w W5 := by rw [← hW5]; exact hb4.setCell (by simp; omega) _
  obtain ⟨y0, y1, y2, y3, y4⟩ := blk2 hB5.out
  obtain ⟨z0, z1, z2, z3, z4⟩ := blk2 hG5.out
  clear u0 u1 u2 u3 u4 x0 x1 x2 x3 x4 hB4 hG4 hown4 hrd4 hat4 hg4 hb4 hW5 s0 s1 s2 s3 s4 t0 t1 t2 t3 t4 r0 r1 r2 r3 r4 p0 p1 p2 p3 p4 q0 q1 q2 q3 q4 hB3 hG3 hg3 hM3 hB1 hG1 hM1 hM hB hG
  have HS := fun W => sort_1 A4 c4 (.func (.func 68) #[.agg #[]] #[]) W
  rw [rounds_succ]
  go_wp2_with (go_at_call 67; refine (HS _).mono ?_; rintro e w6 ⟨rfl, rfl⟩)
  refine bodyPost_ret (v := .tuple #[.agg #[.int .i64 n, .slice A4 1 c4], .int .i64 0]) (by simp [results, Try.results27, go_sem, z0, z1]) rfl ?_
  exact ⟨_, rfl, own_cast (own_set (own_set hown5 (a := ⟨w.heap.size, 0, none⟩) (by simp) _) (a := ⟨w.heap.size, 1, none⟩) (by simp) _) (by omega) rfl rfl, by (repeat (first | with_reducible exact Below.refl _ _ | with_reducible assumption | with_reducible refine below_drewN0 ?_ _ | with_reducible refine Below.drew ?_ | with_reducible refine Below.alloc ?_ ?_ _ | with_reducible refine Below.setCell ?_ ?_ _ | go_size | exact Below.size (by assumption)))⟩

end Go.Proofs.Ytglhdoibglafbaa

/- Walks of the waking call of the graph laws. -/
namespace Go.Proofs.Ytglhdoibglafbaa
open Go Go.RowKit
set_option maxRecDepth 100000
set_option linter.unusedVariables false

theorem below_sub {B : Nat} {a b : World} (h : Below b.heap.size b a) (hB : B ≤ b.heap.size) : Below B b a := h.mono hB

set_option maxHeartbeats 2000000 in
theorem awake02 (w : World) : Calls Try.prog 25 #[] w fun e w' => e = .returned (.bool true) ∧ Below w.heap.size w w' := by
  have HM := fun c W hR => make_1 3 2 0 (some ⟨w.heap.size, 0, none⟩) c W hR
  have HH := fun es A c W hR hc hm => has_any 3 0 2 es A c W hR hc hm
  have HB : hasB 3 [(0, 2)] 0 2 = true := by decide
  go_enter Try.func25, Try.ntmps25
  go_wp2_with (first
    | (go_at_call 27; refine (HM 1 _ ?_ (by omega) (by omega) (by omega) 0 2 rfl rfl (by omega) (by omega) (by omega)).mono ?_
       · exact reads_new w [_, _] _
       rintro e w1 ⟨v, rfl, ho, hb⟩
       obtain ⟨A, c, rfl, hl, hrd⟩ := own_reads0 ho
       obtain ⟨b0, o0, rfl, hbl, e1, e2⟩ := Reads.pair' (l := [(0, 2)]) hrd 0 (0, 2) rfl
       simp only [Nat.zero_mul, Nat.add_zero] at e1 e2
       have hbw : Below w.heap.size w w1 := Below.trans (by (repeat (first | with_reducible exact Below.refl _ _ | with_reducible assumption | with_reducible refine below_drewN0 ?_ _ | with_reducible refine Below.drew ?_ | with_reducible refine Below.alloc ?_ ?_ _ | with_reducible refine Below.setCell ?_ ?_ _ | go_size | exact Below.size (by assumption)))) (hb.mono (by simp)))
    | (go_at_call 33; refine (HH [(0, 2)] _ _ _ (hrd.below ?_) hl (by decide)).mono ?_
       · (repeat (first | with_reducible exact Below.refl _ _ | with_reducible assumption | with_reducible refine below_drewN0 ?_ _ | with_reducible refine Below.drew ?_ | with_reducible refine Below.alloc ?_ ?_ _ | with_reducible refine Below.setCell ?_ ?_ _ | go_size | exact Below.size (by assumption)))
       rw [HB]
       rintro e w2 ⟨rfl, hb2⟩))
  go_ret
  exact ⟨rfl, Below.trans (hbw.alloc hbw.size _) (hb2.mono (by have := hbw.size; simp; omega))⟩

theorem make_limit (n : Int) (A : Option Addr) (l c : Nat) (w : World) (hn : 4096 < n) :
    Calls Try.prog 27 #[.int .i64 n, .slice A l c] w fun e w' => e = .returned (.tuple #[.agg #[.int .i64 0, .slice none 0 0], .int .i64 8]) ∧ Below w.heap.size w w' := by
  go_enter Try.func27, Try.ntmps27
  go_wp2_with fail
  refine bodyPost_ret (v := .tuple #[.agg #[.int .i64 0, .slice none 0 0], .int .i64 8]) (by simp [results, Try.results27, go_sem]) rfl ?_
  exact ⟨rfl, by go_grown⟩

theorem add_vertex (n a b : Int) (es : List (Int × Int)) (A : Option Addr) (c : Nat) (w : World) (hr : Reads w A (pcells es)) (hc : es.length ≤ c) (hm : es.length ≤ 4611686018427387903) (hR : rightB n es = true) (hT : (decide (0 ≤ min a b) && decide (max a b < n)) = false) :
    Calls Try.prog 57 #[.agg #[.int .i64 n, .slice A es.length c], .int .i64 a, .int .i64 b] w fun e w' => e = .returned (.tuple #[.agg #[.int .i64 0, .slice none 0 0], .int .i64 4]) ∧ Below w.heap.size w w' := by
  have HRt := fun W hr => right_any n es A c W hr hc hm
  rw [hR] at HRt
  have HT := fun W => there_any n a b W
  rw [hT] at HT
  clear hT hR
  go_enter Try.func57, Try.ntmps57
  go_wp2_with (first
    | (go_at_call 31; refine (HRt _ (hr.below ?_)).mono ?_
       · (repeat (first | with_reducible exact Below.refl _ _ | with_reducible assumption | with_reducible refine below_drewN0 ?_ _ | with_reducible refine Below.drew ?_ | with_reducible refine Below.alloc ?_ ?_ _ | with_reducible refine Below.setCell ?_ ?_ _ | go_size | exact Below.size (by assumption)))
       rintro e w1 ⟨rfl, hb1⟩
       have hbw : Below w.heap.size w w1 := Below.trans (by (repeat (first | with_reducible exact Below.refl _ _ | with_reducible assumption | with_reducible refine below_drewN0 ?_ _ | with_reducible refine Below.drew ?_ | with_reducible refine Below.alloc ?_ ?_ _ | with_reducible refine Below.setCell ?_ ?_ _ | go_size | exact Below.size (by assumption)))) (hb1.mono (by simp; omega))
       obtain ⟨a0, a1, a2, a3, a4⟩ := blk2 ((hb1.block w.heap.size (by simp; omega)).trans (heap_old (heap_alloc_new _ _)))
       obtain ⟨b0, b1, b2, b3, b4⟩ := blk2 ((hb1.block (w.heap.size + 1) (by simp)).trans (by have h := heap_alloc_new (w.alloc (Obj.cells #[Value.int IntKind.i64 n, Value.slice A es.length c] 25)) (Obj.cells #[Value.int IntKind.i64 0, Value.slice none 0 0] 25); rw [World.size_alloc] at h; exact h)))
    | (go_at_call 66; refine (HT _).mono ?_; rintro e w2 ⟨rfl, rfl⟩))
  refine bodyPost_ret (v := .tuple #[.agg #[.int .i64 0, .slice none 0 0], .int .i64 4]) (by simp [results, Try.results57, go_sem, b0, b1]) rfl ?_
  exact ⟨rfl, by (repeat (first | with_reducible exact Below.refl _ _ | with_reducible assumption | with_reducible refine below_drewN0 ?_ _ | with_reducible refine Below.drew ?_ | with_reducible refine Below.alloc ?_ ?_ _ | with_reducible refine Below.setCell ?_ ?_ _ | go_size | exact Below.size (by assumption)))⟩

theorem eqf_nil (fv : Value) (w : World) : Calls Try.prog 79 #[.slice none 0 0, .slice none 0 0, fv] w fun e w' => e = .returned (.bool true) ∧ w = w' := by
  go_enter Try.func79, Try.ntmps79
  go_wp2_with fail
  go_rounds 1
  go_ret
  simp

theorem edges_nil (w : World) : Calls Try.prog 51 #[.slice none 0 0, .slice none 0 0] w fun e w' => e = .returned (.bool true) ∧ w = w' := by
  go_enter Try.func51, Try.ntmps51
  go_wp2_with (go_at_call 79; refine (eqf_nil _ _).mono ?_; rintro e w1 ⟨rfl, rfl⟩)
  go_ret
  simp

theorem graph_nil (w : World) : Calls Try.prog 29 #[.agg #[.int .i64 0, .slice none 0 0], .agg #[.int .i64 0, .slice none 0 0]] w fun e w' => e = .returned (.bool true) ∧ Below w.heap.size w w' := by
  go_enter Try.func29, Try.ntmps29
  go_wp2_with (go_at_call 51; refine (edges_nil _).mono ?_; rintro e w1 ⟨rfl, rfl⟩)
  go_ret
  exact ⟨rfl, by (repeat (first | with_reducible exact Below.refl _ _ | with_reducible assumption | with_reducible refine below_drewN0 ?_ _ | with_reducible refine Below.drew ?_ | with_reducible refine Below.alloc ?_ ?_ _ | with_reducible refine Below.setCell ?_ ?_ _ | go_size | exact Below.size (by assumption)))⟩

end Go.Proofs.Ytglhdoibglafbaa

/- Walks of graph's Add, Remove, Near at what is no graph. -/
namespace Go.Proofs.Ytglhdoibglafbaa
open Go Go.RowKit
set_option maxRecDepth 100000
set_option linter.unusedVariables false

theorem add_bad (n a b : Int) (es : List (Int × Int)) (A : Option Addr) (c : Nat) (w : World) (hr : Reads w A (pcells es)) (hc : es.length ≤ c) (hm : es.length ≤ 4611686018427387903) (hR : rightB n es = false) :
    Calls Try.prog 57 #[.agg #[.int .i64 n, .slice A es.length c], .int .i64 a, .int .i64 b] w fun e w' => e = .returned (.tuple #[.agg #[.int .i64 0, .slice none 0 0], .int .i64 3]) ∧ Below w.heap.size w w' := by
  have HRt := fun W hr => right_any n es A c W hr hc hm
  rw [hR] at HRt
  clear hR
  go_enter Try.func57, Try.ntmps57
  go_wp2_with (first
    | (go_at_call 31; refine (HRt _ (hr.below ?_)).mono ?_
       · (repeat (first | with_reducible exact Below.refl _ _ | with_reducible assumption | with_reducible refine below_drewN0 ?_ _ | with_reducible refine Below.drew ?_ | with_reducible refine Below.alloc ?_ ?_ _ | with_reducible refine Below.setCell ?_ ?_ _ | go_size | exact Below.size (by assumption)))
       rintro e w1 ⟨rfl, hb1⟩
       have hbw : Below w.heap.size w w1 := Below.trans (by (repeat (first | with_reducible exact Below.refl _ _ | with_reducible assumption | with_reducible refine below_drewN0 ?_ _ | with_reducible refine Below.drew ?_ | with_reducible refine Below.alloc ?_ ?_ _ | with_reducible refine Below.setCell ?_ ?_ _ | go_size | exact Below.size (by assumption)))) (hb1.mono (by simp; omega))
       obtain ⟨a0, a1, a2, a3, a4⟩ := blk2 ((hb1.block w.heap.size (by simp; omega)).trans (heap_old (heap_alloc_new _ _)))
       obtain ⟨b0, b1, b2, b3, b4⟩ := blk2 ((hb1.block (w.heap.size + 1) (by simp)).trans (by have h := heap_alloc_new (w.alloc (Obj.cells #[Value.int IntKind.i64 n, Value.slice A es.length c] 25)) (Obj.cells #[Value.int IntKind.i64 0, Value.slice none 0 0] 25); rw [World.size_alloc] at h; exact h))))
  refine bodyPost_ret (v := .tuple #[.agg #[.int .i64 0, .slice none 0 0], .int .i64 3]) (by simp [results, Try.results57, go_sem, b0, b1]) rfl ?_
  exact ⟨rfl, by (repeat (first | with_reducible exact Below.refl _ _ | with_reducible assumption | with_reducible refine below_drewN0 ?_ _ | with_reducible refine Below.drew ?_ | with_reducible refine Below.alloc ?_ ?_ _ | with_reducible refine Below.setCell ?_ ?_ _ | go_size | exact Below.size (by assumption)))⟩

theorem remove_bad (n a b : Int) (es : List (Int × Int)) (A : Option Addr) (c : Nat) (w : World) (hr : Reads w A (pcells es)) (hc : es.length ≤ c) (hm : es.length ≤ 4611686018427387903) (hR : rightB n es = false) :
    Calls Try.prog 59 #[.agg #[.int .i64 n, .slice A es.length c], .int .i64 a, .int .i64 b] w fun e w' => e = .returned (.tuple #[.agg #[.int .i64 0, .slice none 0 0], .int .i64 3]) ∧ Below w.heap.size w w' := by
  have HRt := fun W hr => right_any n es A c W hr hc hm
  rw [hR] at HRt
  clear hR
  go_enter Try.func59, Try.ntmps59
  go_wp2_with (first
    | (go_at_call 31; refine (HRt _ (hr.below ?_)).mono ?_
       · (repeat (first | with_reducible exact Below.refl _ _ | with_reducible assumption | with_reducible refine below_drewN0 ?_ _ | with_reducible refine Below.drew ?_ | with_reducible refine Below.alloc ?_ ?_ _ | with_reducible refine Below.setCell ?_ ?_ _ | go_size | exact Below.size (by assumption)))
       rintro e w1 ⟨rfl, hb1⟩
       have hbw : Below w.heap.size w w1 := Below.trans (by (repeat (first | with_reducible exact Below.refl _ _ | with_reducible assumption | with_reducible refine below_drewN0 ?_ _ | with_reducible refine Below.drew ?_ | with_reducible refine Below.alloc ?_ ?_ _ | with_reducible refine Below.setCell ?_ ?_ _ | go_size | exact Below.size (by assumption)))) (hb1.mono (by simp; omega))
       obtain ⟨a0, a1, a2, a3, a4⟩ := blk2 ((hb1.block w.heap.size (by simp; omega)).trans (heap_old (heap_alloc_new _ _)))
       obtain ⟨b0, b1, b2, b3, b4⟩ := blk2 ((hb1.block (w.heap.size + 1) (by simp)).trans (by have h := heap_alloc_new (w.alloc (Obj.cells #[Value.int IntKind.i64 n, Value.slice A es.length c] 25)) (Obj.cells #[Value.int IntKind.i64 0, Value.slice none 0 0] 25); rw [World.size_alloc] at h; exact h))))
  refine bodyPost_ret (v := .tuple #[.agg #[.int .i64 0, .slice none 0 0], .int .i64 3]) (by simp [results, Try.results59, go_sem, b0, b1]) rfl ?_
  exact ⟨rfl, by (repeat (first | with_reducible exact Below.refl _ _ | with_reducible assumption | with_reducible refine below_drewN0 ?_ _ | with_reducible refine Below.drew ?_ | with_reducible refine Below.alloc ?_ ?_ _ | with_reducible refine Below.setCell ?_ ?_ _ | go_size | exact Below.size (by assumption)))⟩

theorem near_bad (n v : Int) (es : List (Int × Int)) (A : Option Addr) (c : Nat) (w : World) (hr : Reads w A (pcells es)) (hc : es.length ≤ c) (hm : es.length ≤ 4611686018427387903) (hR : rightB n es = false) :
    Calls Try.prog 38 #[.agg #[.int .i64 n, .slice A es.length c], .int .i64 v] w fun e w' => e = .returned (.slice none 0 0) ∧ Below w.heap.size w w' := by
  have HRt := fun W hr => right_any n es A c W hr hc hm
  rw [hR] at HRt
  clear hR
  go_enter Try.func38, Try.ntmps38
  go_wp2_with (first
    | (go_at_call 31; refine (HRt _ (hr.below ?_)).mono ?_
       · (repeat (first | with_reducible exact Below.refl _ _ | with_reducible assumption | with_reducible refine below_drewN0 ?_ _ | with_reducible refine Below.drew ?_ | with_reducible refine Below.alloc ?_ ?_ _ | with_reducible refine Below.setCell ?_ ?_ _ | go_size | exact Below.size (by assumption)))
       rintro e w1 ⟨rfl, hb1⟩
       have hbw : Below w.heap.size w w1 := Below.trans (by (repeat (first | with_reducible exact Below.refl _ _ | with_reducible assumption | with_reducible refine below_drewN0 ?_ _ | with_reducible refine Below.drew ?_ | with_reducible refine Below.alloc ?_ ?_ _ | with_reducible refine Below.setCell ?_ ?_ _ | go_size | exact Below.size (by assumption)))) (hb1.mono (by simp))
       obtain ⟨a0, a1, a2, a3, a4⟩ := blk2 ((hb1.block w.heap.size (by simp)).trans (heap_alloc_new _ _))))
  go_ret
  exact ⟨rfl, by (repeat (first | with_reducible exact Below.refl _ _ | with_reducible assumption | with_reducible refine below_drewN0 ?_ _ | with_reducible refine Below.drew ?_ | with_reducible refine Below.alloc ?_ ?_ _ | with_reducible refine Below.setCell ?_ ?_ _ | go_size | exact Below.size (by assumption)))⟩

end Go.Proofs.Ytglhdoibglafbaa

/- Walks of graph.Near, graph.Degree. -/
namespace Go.Proofs.Ytglhdoibglafbaa
open Go Go.RowKit
set_option maxRecDepth 100000
set_option linter.unusedVariables false

/-- A row of numbers, told. -/
def RowPost (l : List Int) (w : World) (e : Ending) (w' : World) : Prop :=
  ∃ (A : Option Addr) (c : Nat), e = .returned (.slice A l.length c) ∧ l.length ≤ c ∧ Reads w' A (icells l) ∧ Below w.heap.size w w'

theorem near_out (n v : Int) (es : List (Int × Int)) (A : Option Addr) (c : Nat) (w : World) (hr : Reads w A (pcells es)) (hc : es.length ≤ c) (hm : es.length ≤ 4611686018427387903) (hR : rightB n es = true) (hv : v < 0 ∨ n ≤ v) :
    Calls Try.prog 38 #[.agg #[.int .i64 n, .slice A es.length c], .int .i64 v] w fun e w' => e = .returned (.slice none 0 0) ∧ Below w.heap.size w w' := by
  have HRt := fun W hr => right_any n es A c W hr hc hm
  rw [hR] at HRt
  clear hR
  by_cases hv0 : v < 0
  · clear hv
    go_enter Try.func38, Try.ntmps38
    go_wp2_with (first
      | (go_at_call 31; refine (HRt _ (hr.below ?_)).mono ?_
         · (repeat (first | with_reducible exact Below.refl _ _ | with_reducible assumption | with_reducible refine below_drewN0 ?_ _ | with_reducible refine Below.drew ?_ | with_reducible refine Below.alloc ?_ ?_ _ | with_reducible refine Below.setCell ?_ ?_ _ | go_size | exact Below.size (by assumption)))
         rintro e w1 ⟨rfl, hb1⟩
         have hbw : Below w.heap.size w w1 := Below.trans (by (repeat (first | with_reducible exact Below.refl _ _ | with_reducible assumption | with_reducible refine below_drewN0 ?_ _ | with_reducible refine Below.drew ?_ | with_reducible refine Below.alloc ?_ ?_ _ | with_reducible refine Below.setCell ?_ ?_ _ | go_size | exact Below.size (by assumption)))) (hb1.mono (by simp))
         obtain ⟨a0, a1, a2, a3, a4⟩ := blk2 ((hb1.block w.heap.size (by simp)).trans (heap_alloc_new _ _))))
    go_ret
    exact ⟨rfl, by (repeat (first | with_reducible exact Below.refl _ _ | with_reducible assumption | with_reducible refine below_drewN0 ?_ _ | with_reducible refine Below.drew ?_ | with_reducible refine Below.alloc ?_ ?_ _ | with_reducible refine Below.setCell ?_ ?_ _ | go_size | exact Below.size (by assumption)))⟩
  · have hv1 : n ≤ v := by omega
    clear hv
    go_enter Try.func38, Try.ntmps38
    go_wp2_with (first
      | (go_at_call 31; refine (HRt _ (hr.below ?_)).mono ?_
         · (repeat (first | with_reducible exact Below.refl _ _ | with_reducible assumption | with_reducible refine below_drewN0 ?_ _ | with_reducible refine Below.drew ?_ | with_reducible refine Below.alloc ?_ ?_ _ | with_reducible refine Below.setCell ?_ ?_ _ | go_size | exact Below.size (by assumption)))
         rintro e w1 ⟨rfl, hb1⟩
         have hbw : Below w.heap.size w w1 := Below.trans (by (repeat (first | with_reducible exact Below.refl _ _ | with_reducible assumption | with_reducible refine below_drewN0 ?_ _ | with_reducible refine Below.drew ?_ | with_reducible refine Below.alloc ?_ ?_ _ | with_reducible refine Below.setCell ?_ ?_ _ | go_size | exact Below.size (by assumption)))) (hb1.mono (by simp))
         obtain ⟨a0, a1, a2, a3, a4⟩ := blk2 ((hb1.block w.heap.size (by simp)).trans (heap_alloc_new _ _))))
    go_ret
    exact ⟨rfl, by (repeat (first | with_reducible exact Below.refl _ _ | with_reducible assumption | with_reducible refine below_drewN0 ?_ _ | with_reducible refine Below.drew ?_ | with_reducible refine Below.alloc ?_ ?_ _ | with_reducible refine Below.setCell ?_ ?_ _ | go_size | exact Below.size (by assumption)))⟩

theorem near_in (n v : Nat) (es : List (Int × Int)) (A : Option Addr) (c : Nat) (w : World) (hr : Reads w A (pcells es)) (hc : es.length ≤ c) (hm : es.length ≤ 4611686018427387903) (hR : rightB n es = true) (hv : v < n) :
    Calls Try.prog 38 #[.agg #[.int .i64 (n : Int), .slice A es.length c], .int .i64 (v : Int)] w (RowPost (nearL es v) w) := by
  have HRt := fun W hr => right_any n es A c W hr hc hm
  have hP := (right_iff _ _).1 hR
  rw [hR] at HRt
  have hP0 := hP.n1
  have hP1 := hP.len
  have HL := fun W hr => lists_any n es A c W hr hc (by omega) (by omega) (fun e he => by have := hP.ok e he; omega)
  have hv0 : ¬ ((v : Int) < 0) := by omega
  have hv1 : ¬ ((n : Int) ≤ (v : Int)) := by omega
  have hv2 : (v : Int) < (n : Int) := by omega
  clear hR hP hP0 hP1
  go_enter Try.func38, Try.ntmps38
  go_wp2_with (first
    | (go_at_call 31; refine (HRt _ (hr.below ?_)).mono ?_
       · (repeat (first | with_reducible exact Below.refl _ _ | with_reducible assumption | with_reducible refine below_drewN0 ?_ _ | with_reducible refine Below.drew ?_ | with_reducible refine Below.alloc ?_ ?_ _ | with_reducible refine Below.setCell ?_ ?_ _ | go_size | exact Below.size (by assumption)))
       rintro e w1 ⟨rfl, hb1⟩
       have hbw : Below w.heap.size w w1 := Below.trans (by (repeat (first | with_reducible exact Below.refl _ _ | with_reducible assumption | with_reducible refine below_drewN0 ?_ _ | with_reducible refine Below.drew ?_ | with_reducible refine Below.alloc ?_ ?_ _ | with_reducible refine Below.setCell ?_ ?_ _ | go_size | exact Below.size (by assumption)))) (hb1.mono (by simp))
       obtain ⟨a0, a1, a2, a3, a4⟩ := blk2 ((hb1.block w.heap.size (by simp)).trans (heap_alloc_new _ _)))
    | (go_at_call 74; refine (HL _ (hr.below ?_)).mono ?_
       · (repeat (first | with_reducible exact Below.refl _ _ | with_reducible assumption | with_reducible refine below_drewN0 ?_ _ | with_reducible refine Below.drew ?_ | with_reducible refine Below.alloc ?_ ?_ _ | with_reducible refine Below.setCell ?_ ?_ _ | go_size | exact Below.size (by assumption)))
       rintro e w2 ⟨B, vs, rfl, hB, hRow, hb2⟩
       obtain ⟨u, A2, c2, hu, rfl, hc2, hrd, ho, hcell⟩ := hRow.get v _ (rowsF_get _ _ _ hv)))
  go_ret
  exact ⟨A2, c2, rfl, hc2, hrd, hbw.trans (hb2.mono hbw.size)⟩

theorem near_any (n v : Int) (es : List (Int × Int)) (A : Option Addr) (c : Nat) (w : World) (hr : Reads w A (pcells es)) (hc : es.length ≤ c) (hm : es.length ≤ 4611686018427387903) :
    Calls Try.prog 38 #[.agg #[.int .i64 n, .slice A es.length c], .int .i64 v] w (RowPost (nearB n es v) w) := by
  have hnil : Calls Try.prog 38 #[.agg #[.int .i64 n, .slice A es.length c], .int .i64 v] w (fun e w' => e = .returned (.slice none 0 0) ∧ Below w.heap.size w w') → nearB n es v = [] →
      Calls Try.prog 38 #[.agg #[.int .i64 n, .slice A es.length c], .int .i64 v] w (RowPost (nearB n es v) w) := fun h he => h.mono fun e w' ⟨h1, h2⟩ => by
    rw [he]; exact ⟨none, 0, h1, Nat.le_refl _, .inl rfl, h2⟩
  cases hR : rightB n es with
  | false => exact hnil (near_bad n v es A c w hr hc hm hR) (by unfold nearB; rw [if_neg (by simp [hR])])
  | true =>
    by_cases hv : 0 ≤ v ∧ v < n
    · obtain ⟨vn, rfl⟩ : ∃ m : Nat, v = m := ⟨v.toNat, by omega⟩
      obtain ⟨nn, rfl⟩ : ∃ m : Nat, n = m := ⟨n.toNat, by omega⟩
      have := near_in nn vn es A c w hr hc hm hR (by omega)
      rwa [nearB_right hR]
    · exact hnil (near_out n v es A c w hr hc hm hR (by omega)) (by unfold nearB; rw [if_neg (fun h => hv h.2)])

theorem degree_any (n v : Int) (es : List (Int × Int)) (A : Option Addr) (c : Nat) (w : World) (hr : Reads w A (pcells es)) (hc : es.length ≤ c) (hm : es.length ≤ 4611686018427387903) :
    Calls Try.prog 40 #[.agg #[.int .i64 n, .slice A es.length c], .int .i64 v] w fun e w' => e = .returned (.int .i64 ((nearB n es v).length : Int)) ∧ Below w.heap.size w w' := by
  have HN := fun W hr => near_any n v es A c W hr hc hm
  generalize nearB n es v = l at *
  go_enter Try.func40, Try.ntmps40
  go_wp2_with (go_at_call 38; refine (HN _ (hr.below ?_)).mono ?_; (repeat (first | with_reducible exact Below.refl _ _ | with_reducible assumption | with_reducible refine below_drewN0 ?_ _ | with_reducible refine Below.drew ?_ | with_reducible refine Below.alloc ?_ ?_ _ | with_reducible refine Below.setCell ?_ ?_ _ | go_size | exact Below.size (by assumption))); rintro e w1 ⟨A1, c1, rfl, hc1, hrd, hb1⟩)
  go_ret
  exact ⟨rfl, Below.trans (by (repeat (first | with_reducible exact Below.refl _ _ | with_reducible assumption | with_reducible refine below_drewN0 ?_ _ | with_reducible refine Below.drew ?_ | with_reducible refine Below.alloc ?_ ?_ _ | with_reducible refine Below.setCell ?_ ?_ _ | go_size | exact Below.size (by assumption)))) (hb1.mono (by simp))⟩

end Go.Proofs.Ytglhdoibglafbaa

/- The walk of Near, the document's answer. -/
namespace Go.Proofs.Ytglhdoibglafbaa
open Go Go.RowKit
set_option maxRecDepth 100000
set_option linter.unusedVariables false

theorem own_apart {w w1 : World} {base e size n : Nat} {v : Value} {xs : List Value} {row : Option Nat} (h : w.ownsRow base e size v n xs) (hg : w.grownBy w1 row) (hne : ∀ g, v.ownBlock = some g → row ≠ some g) : w1.ownsRow base e size v n xs :=
  own_far h fun g hg' => hg.block g (own_lt0 h g hg').2 (fun hx => hne g hg' hx.symm)

/-- Two rows of one's own, one of which has grown. -/
theorem two_rows {w1 wr w5 : World} {B e e' s s' n5 n6 : Nat} {v5 v6 v5' : Value} {xs5 xs6 : List Value} (hb : Below B w1 wr) (hB : B ≤ wr.heap.size) (HO5 : wr.ownsRow B e s v5 n5 xs5) (HO6 : wr.ownsRow B e' s' v6 n6 xs6)
    (hne : ∀ g, v5.ownBlock = some g → v6.ownBlock ≠ some g) (o : Obj) (hg5 : (wr.alloc o).grownBy w5 v5.ownBlock) (hat5 : v5'.ownBlock = v5.ownBlock ∨ v5'.ownBlock = some (wr.alloc o).heap.size) :
    Below B w1 w5 ∧ w5.ownsRow B e' s' v6 n6 xs6 ∧ (∀ g, v5'.ownBlock = some g → v6.ownBlock ≠ some g) := by
  refine ⟨below_app (hb.alloc hB o) hg5 (by simp; omega) (fun g hg => (own_lt0 HO5 g hg).1), own_apart (own_below0 HO6 (Below.alloc (Below.refl _ _) (Nat.le_refl _) o)) hg5 (fun g hg hx => hne g hx hg), fun g hg hx => ?_⟩
  rcases hat5 with h9 | h9
  · exact hne g (h9.symm.trans hg) hx
  · have h8 := (own_lt0 HO6 g hx).2
    rw [h9] at hg
    simp at hg
    omega

set_option maxHeartbeats 4000000 in
theorem refNear_ok (n v : Int) (es : List (Int × Int)) (A : Option Addr) (c : Nat) (w : World) (hr : Reads w A (pcells es)) (hc : es.length ≤ c) (hm : es.length ≤ 4611686018427387903) (hR : rightB n es = true) :
    Calls Try.prog 39 #[.agg #[.int .i64 n, .slice A es.length c], .int .i64 v] w (RowPost (nearL es v) w) := by
  have HRt := fun W hr => refRight n es A c W hr hc hm
  have hP1 := ((right_iff _ _).1 hR).len
  have HOK := Lib.hid ((right_iff _ _).1 hR).ok
  rw [hR] at HRt
  clear hR
  go_enter Try.func39, Try.ntmps39
  go_wp2_with (first
    | (go_at_call 32; refine (HRt _ (hr.below ?_)).mono ?_
       · (repeat (first | with_reducible exact Below.refl _ _ | with_reducible assumption | with_reducible refine below_drewN0 ?_ _ | with_reducible refine Below.drew ?_ | with_reducible refine Below.alloc ?_ ?_ _ | with_reducible refine Below.setCell ?_ ?_ _ | go_size | exact Below.size (by assumption)))
       rintro e w1 ⟨rfl, hb1⟩
       have hbw : Below w.heap.size w w1 := Below.trans (by (repeat (first | with_reducible exact Below.refl _ _ | with_reducible assumption | with_reducible refine below_drewN0 ?_ _ | with_reducible refine Below.drew ?_ | with_reducible refine Below.alloc ?_ ?_ _ | with_reducible refine Below.setCell ?_ ?_ _ | go_size | exact Below.size (by assumption)))) (hb1.mono (by simp))
       have HG := Lib.hid (fun w' (h : Below w1.heap.size w1 w') => blk2 ((h.block w.heap.size (by have := hb1.size; simp at this; omega)).trans ((hb1.block w.heap.size (by simp)).trans (heap_alloc_new _ _))))))
  have hs1 : w.heap.size + 1 ≤ w1.heap.size := by have := hb1.size; simp at this; omega
  clear hb1
  go_loopw [5, 6, 7] (fun v5 v6 i wr => ∃ k : Nat, k ≤ es.length ∧ i = .int .i64 k ∧ Below w1.heap.size w1 wr ∧ Hid (wr.ownsRow w1.heap.size 3 1 v5 (lowL (es.take k) v).length (icells (lowL (es.take k) v))) ∧ Hid (wr.ownsRow w1.heap.size 3 1 v6 (highL (es.take k) v).length (icells (highL (es.take k) v))) ∧ Hid (∀ g, v5.ownBlock = some g → v6.ownBlock ≠ some g)) (fun _ _ i _ => es.length - (intOf i).toNat)
  case atStart => exact ⟨0, Nat.zero_le _, rfl, Below.refl _ _, own_nil0 _ _ _ _, own_nil0 _ _ _ _, fun g h => by simp [Value.ownBlock] at h⟩
  case round =>
    obtain ⟨k, hk, rfl, hb, ho5, ho6, hne⟩ := hrel
    have hsr := hb.size
    by_cases hlt : k < es.length
    · obtain ⟨⟨x, y⟩, hxy⟩ : ∃ e, es[k]? = some e := ⟨es[k], by simp [hlt]⟩
      have hord : x < y := (HOK.out _ (List.mem_of_getElem? hxy)).2.1
      obtain ⟨b, o, rfl, hbl, e1, e2⟩ := hr.pair' k _ hxy
      have HLo := Lib.hid (lowL_one es k x y hxy v)
      have HHi := Lib.hid (highL_one es k x y hxy v)
      have hl5 := lowL_length (es.take k) v
      have hl6 := highL_length (es.take k) v
      have htk := List.length_take_le k es
      clear hxy
      have hkc : (k : Int) < (es.length : Int) := by omega
      have HK := Lib.hid (fun (w' : World) (h : Below w1.heap.size w1 w') => (⟨(HG.out _ h).1, (HG.out _ h).2.1, (h.cell (p := ⟨b, o + k * 2, none⟩) (by dsimp only; omega)).trans ((hbw.cell (p := ⟨b, o + k * 2, none⟩) hbl).trans e1), (h.cell (p := ⟨b, o + k * 2 + 1, none⟩) (by dsimp only; omega)).trans ((hbw.cell (p := ⟨b, o + k * 2 + 1, none⟩) hbl).trans e2)⟩ : w'.cell? ⟨w.heap.size, 0, none⟩ = some (.int .i64 n) ∧ w'.cell? ⟨w.heap.size, 1, none⟩ = some (.slice (some ⟨b, o, none⟩) es.length c) ∧ w'.cell? ⟨b, o + k * 2, none⟩ = some (.int .i64 x) ∧ w'.cell? ⟨b, o + k * 2 + 1, none⟩ = some (.int .i64 y)))
      obtain ⟨a0, a1, a2, a3⟩ := HK.out _ hb
      clear e1 e2
      obtain ⟨A5, c5, rfl, hc5, hr5⟩ := own_reads0 ho5.out
      obtain ⟨A6, c6, rfl, hc6, hr6⟩ := own_reads0 ho6.out
      have HO5 := ho5
      have HO6 := ho6
      clear ho5 ho6
      by_cases hy : y = v
      · subst hy
        have hx : ¬ x = y := by omega
        have hx' : (x == y) = false := by simpa using hx
        go_wp2_with (first
          | (at_builtin; go_loud (
             refine wpList_app EI_int rfl (.tmp 26) (.tmp 33) rfl w1.heap.size (.slice A5 (lowL (es.take k) y).length c5) (lowL (es.take k) y).length (icells (lowL (es.take k) y)) rfl ?_ (some ⟨wr.heap.size, 0, none⟩) 1 1 [.int .i64 x] rfl ?_ rfl ?_ ?_ ?_ ?_
             · exact own_below0 HO5.out (by (repeat (first | with_reducible exact Below.refl _ _ | with_reducible assumption | with_reducible refine below_drewN0 ?_ _ | with_reducible refine Below.drew ?_ | with_reducible refine Below.alloc ?_ ?_ _ | with_reducible refine Below.setCell ?_ ?_ _ | go_size | exact Below.size (by assumption))))
             · exact reads_new _ [_] _
             · simp [Value.oneCell']
             · omega
             · go_size
             intro v5' w5 hown5 hg5 hat5
             obtain ⟨hb5, hown6, hne5⟩ := two_rows hb hsr HO5.out HO6.out hne.out _ hg5 hat5
             have HN5 := Lib.hid hne5
             obtain ⟨b0, b1, b2, b3⟩ := HK.out _ hb5
             clear hne5)))
        go_roundw
        case rel => exact ⟨k + 1, by omega, by go_num, hb5, by rw [HLo.out, if_pos rfl]; exact own_cast hown5 (Nat.le_refl _) (by simp) (by simp [icells]), by rw [HHi.out, if_neg hx]; exact hown6, HN5⟩
        case measure => simp [intOf]; omega
      · have hy' : (y == v) = false := by simpa using hy
        by_cases hx : x = v
        · subst hx
          go_wp2_with (first
            | (at_builtin; go_loud (
               refine wpList_app EI_int rfl (.tmp 43) (.tmp 50) rfl w1.heap.size (.slice A6 (highL (es.take k) x).length c6) (highL (es.take k) x).length (icells (highL (es.take k) x)) rfl ?_ (some ⟨wr.heap.size, 0, none⟩) 1 1 [.int .i64 y] rfl ?_ rfl ?_ ?_ ?_ ?_
               · exact own_below0 HO6.out (by (repeat (first | with_reducible exact Below.refl _ _ | with_reducible assumption | with_reducible refine below_drewN0 ?_ _ | with_reducible refine Below.drew ?_ | with_reducible refine Below.alloc ?_ ?_ _ | with_reducible refine Below.setCell ?_ ?_ _ | go_size | exact Below.size (by assumption))))
               · exact reads_new _ [_] _
               · simp [Value.oneCell']
               · omega
               · go_size
               intro v6' w6 hown6 hg6 hat6
               obtain ⟨hb6, hown5, hne6⟩ := two_rows hb hsr HO6.out HO5.out (fun g hg hx => hne.out g hx hg) _ hg6 hat6
               have HN6 := Lib.hid hne6
               clear hne6)))
          go_roundw
          case rel => exact ⟨k + 1, by omega, by go_num, hb6, by rw [HLo.out, if_neg hy]; exact hown5, by rw [HHi.out, if_pos rfl]; exact own_cast hown6 (Nat.le_refl _) (by simp) (by simp [icells]), fun g hg hx => HN6.out g hx hg⟩
          case measure => simp [intOf]; omega
        · have hx' : (x == v) = false := by simpa using hx
          go_wp2_with fail
          go_roundw
          case rel => exact ⟨k + 1, by omega, by go_num, hb, by rw [HLo.out, if_neg hy]; exact HO5, by rw [HHi.out, if_neg hx]; exact HO6, hne⟩
          case measure => simp [intOf]; omega
    · obtain rfl : k = es.length := by omega
      simp only [List.take_length] at ho5 ho6 hne
      obtain ⟨A5, c5, rfl, hc5, hr5⟩ := own_reads0 ho5.out
      obtain ⟨A6, c6, rfl, hc6, hr6⟩ := own_reads0 ho6.out
      have HO5 := ho5
      have HO6 := ho6
      clear ho5 ho6
      obtain ⟨a0, a1, a2, a3, a4⟩ := HG.out _ hb
      have hl5 := lowL_length es v
      have hl6 := highL_length es v
      go_wp2_with (first
          | (at_builtin; go_loud (
             refine wpList_app EI_int rfl (.tmp 52) (.tmp 53) rfl w1.heap.size (.slice A5 (lowL es v).length c5) (lowL es v).length (icells (lowL es v)) rfl HO5.out A6 (highL es v).length c6 (icells (highL es v)) rfl hr6 ?_ (icells_one _) ?_ ?_ ?_
             · simp [icells]
             · omega
             · go_size
             intro v7 w7 hown7 hg7 hat7
             obtain ⟨A7, c7, rfl, hc7, hr7⟩ := own_reads0 hown7
             have hb7 : Below w1.heap.size w1 w7 := below_app hb hg7 hsr (fun g hg => (own_lt0 HO5.out g hg).1))))
      go_ret
      refine ⟨A7, c7, by simp [nearL], by simpa [nearL] using hc7, by rw [nearL, icells_append]; exact hr7, hbw.trans (hb7.mono (by omega))⟩
theorem refNear_any (n v : Int) (es : List (Int × Int)) (A : Option Addr) (c : Nat) (w : World) (hr : Reads w A (pcells es)) (hc : es.length ≤ c) (hm : es.length ≤ 4611686018427387903) :
    Calls Try.prog 39 #[.agg #[.int .i64 n, .slice A es.length c], .int .i64 v] w (RowPost (nearB n es v) w) := by
  cases hR : rightB n es with
  | true =>
    rw [nearB_right hR]
    exact refNear_ok n v es A c w hr hc hm hR
  | false =>
    have hnil : nearB n es v = [] := by unfold nearB; rw [if_neg (by simp [hR])]
    rw [hnil]
    have HRt := fun W hr => refRight n es A c W hr hc hm
    rw [hR] at HRt
    clear hR hnil
    go_enter Try.func39, Try.ntmps39
    go_wp2_with (first
      | (go_at_call 32; refine (HRt _ (hr.below ?_)).mono ?_
         · (repeat (first | with_reducible exact Below.refl _ _ | with_reducible assumption | with_reducible refine below_drewN0 ?_ _ | with_reducible refine Below.drew ?_ | with_reducible refine Below.alloc ?_ ?_ _ | with_reducible refine Below.setCell ?_ ?_ _ | go_size | exact Below.size (by assumption)))
         rintro e w1 ⟨rfl, hb1⟩
         have hbw : Below w.heap.size w w1 := Below.trans (by (repeat (first | with_reducible exact Below.refl _ _ | with_reducible assumption | with_reducible refine below_drewN0 ?_ _ | with_reducible refine Below.drew ?_ | with_reducible refine Below.alloc ?_ ?_ _ | with_reducible refine Below.setCell ?_ ?_ _ | go_size | exact Below.size (by assumption)))) (hb1.mono (by simp))))
    go_ret
    exact ⟨none, 0, rfl, Nat.le_refl _, .inl rfl, hbw⟩
end Go.Proofs.Ytglhdoibglafbaa
